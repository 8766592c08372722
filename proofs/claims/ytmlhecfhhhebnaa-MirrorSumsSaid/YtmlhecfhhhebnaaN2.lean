/- Vc, Vd, Ve, Vf, Vg of the seat's texts, in this order. -/
import Derived.Test.YtmlhecfhhhebnaaVa
import Derived.Test.YtmlhecfhhhebnaaPp
import Derived.Test.YtmlhecfhhhebnaaSj
import Derived.Test.YtmlhecfhhhebnaaVb

/- Lower, plain: bits of a number. No Go in sight. -/
namespace Go.Proofs.Ytmlhecfhhhebnaa

def bitL (N m : Nat) : List Bool := (List.range N).map fun j => Nat.testBit m j
theorem bitL_len (N m : Nat) : (bitL N m).length = N := by simp [bitL]
theorem bitL_get {N m j : Nat} (h : j < (bitL N m).length) : (bitL N m)[j] = Nat.testBit m j := by simp [bitL]
theorem bitL_set {N m i : Nat} : (bitL N m).set i true = bitL N (m ||| 2 ^ i) := by
  apply List.ext_getElem
  · simp [bitL]
  · intro j h1 h2
    rw [List.getElem_set]
    by_cases e : i = j
    · subst e
      rw [if_pos rfl, bitL_get, Nat.testBit_or, Nat.testBit_two_pow_self]; simp
    · rw [if_neg e, bitL_get, bitL_get, Nat.testBit_or, Nat.testBit_two_pow]
      simp [e]
theorem bitL_zero (N : Nat) : bitL N 0 = List.replicate N false := by
  apply List.ext_getElem
  · simp [bitL]
  · intro j h1 h2
    simp [bitL]
/-- One letter: with it and without. -/
def lowJ (X : List (List Nat)) (s o : Nat) : Nat → Nat
  | 0 => o
  | j + 1 => if Nat.testBit o j = true then lowJ X s o j ||| 2 ^ (stepX X j s) else lowJ X s o j
def lowW (X : List (List Nat)) (N : Nat) (w : List Nat) : Nat := w.foldl (fun o s => lowJ X s o N) 1
theorem lowW_snoc (X : List (List Nat)) (N : Nat) (w : List Nat) (s : Nat) : lowW X N (w ++ [s]) = lowJ X s (lowW X N w) N := by simp [lowW]
def lowB (W X : List (List Nat)) (R : List Nat) : Bool := (List.range W.length).all fun i => lowW X W.length (W.getD i []) == gN R i
theorem low_all : (allGroups.all fun g => lowB (litW g.1 g.2) (litX g.1 g.2) (oRT g.1 g.2)) = true := by decide +kernel
theorem low_bel {K n : Nat} (hv : validB K n = true) {i j : Nat} (hi : i < (wordsG K n).length) (hj : j < (wordsG K n).length) : Nat.testBit (lowW (nextG K n) (wordsG K n).length ((wordsG K n).getD i [])) j = belG (wordsG K n) (nextG K n) j i := by
  have hkR : ckR (wordsG K n) (nextG K n) (oRT K n) = true := by
    rw [(lit_of hv).1, (lit_of hv).2]; exact List.all_eq_true.1 ckR_all _ (valid_in hv)
  have hlo : lowB (wordsG K n) (nextG K n) (oRT K n) = true := by
    rw [(lit_of hv).1, (lit_of hv).2]; exact List.all_eq_true.1 low_all _ (valid_in hv)
  rw [belG_R (tkG hv) (lstG hv) hkR hj hi]
  have := List.all_eq_true.1 hlo i (List.mem_range.2 hi)
  rw [eq_of_beq this]
/-- The reference's Covers, step by step. -/
def rcvTo (W : List (List Nat)) (p : Nat → Bool) (k : Nat) : List (List Nat) := ((List.range k).filter p).map fun u => W.getD u []
theorem rcv_succ (W : List (List Nat)) (p : Nat → Bool) (k : Nat) : rcvTo W p (k + 1) = if p k = true then rcvTo W p k ++ [W.getD k []] else rcvTo W p k := by
  unfold rcvTo
  rw [List.range_succ, List.filter_append, List.map_append]
  cases h : p k <;> simp [h]
theorem rcv_len (W : List (List Nat)) (p : Nat → Bool) (k : Nat) : (rcvTo W p k).length ≤ k := by
  unfold rcvTo
  rw [List.length_map]
  have := List.length_filter_le p (List.range k)
  rwa [List.length_range] at this
end Go.Proofs.Ytmlhecfhhhebnaa

/- The reference's Lower: the walk. -/
namespace Go.Proofs.Ytmlhecfhhhebnaa
open Go.RowKit
attribute [local go_sem] Oper.semAt_some

/-! ### rows of truth values -/
def OwnB (B : Nat) (w : World) (v : Value) (bs : List Bool) : Prop := w.ownsRow B 4 1 v bs.length (bs.map Value.bool)
theorem infoB : (Try.prog.info? 4).map (fun i => (i.zero, i.size, i.bytes)) = some (some (.bool false), 1, 1) := by kernel_rfl
section
variable {B : Nat} {w w' : World} {g n cap : Nat} {bs : List Bool}
theorem OwnB.cell (h : OwnB B w (.slice (some ⟨g, 0, none⟩) n cap) bs) (j : Nat) (hj : j < bs.length) : w.cell? ⟨g, j, none⟩ = some (.bool bs[j]) := by
  have hn : n = bs.length := by
    rcases h.2 with ⟨h', _⟩ | ⟨g', cap', cur, h', _⟩
    · cases h'
    · exact (Value.slice.inj h').2.1
  subst hn
  rw [World.ownsRow.cellAt h j (by omega)]
  simp [List.getElem?_eq_getElem hj]
theorem OwnB.len (h : OwnB B w (.slice (some ⟨g, 0, none⟩) n cap) bs) : n = bs.length := by
  rcases h.2 with ⟨h', _⟩ | ⟨g', cap', cur, h', _⟩
  · cases h'
  · exact (Value.slice.inj h').2.1
theorem OwnB.free (h : OwnB B w (.slice (some ⟨g, 0, none⟩) n cap) bs) (j : Nat) : w.frozen? ⟨g, j, none⟩ = false := by
  have hn := h.len
  subst hn
  exact World.ownsRow.frozenAt h j
theorem OwnB.put (h : OwnB B w (.slice (some ⟨g, 0, none⟩) n cap) bs) (j : Nat) (b : Bool) : OwnB B (w.setCell ⟨g, j, none⟩ (.bool b)) (.slice (some ⟨g, 0, none⟩) n cap) (bs.set j b) := by
  have hn := h.len
  subst hn
  have := (World.ownsRow.stored h j (.bool b)).1
  unfold OwnB
  rw [List.length_set, List.map_set]
  exact this
theorem OwnB.below {v : Value} (h : OwnB B w v bs) (hb : Below w.heap.size w w') : OwnB B w' v bs :=
  World.ownsRow.kept (row := none) h ⟨hb.os, hb.tape, hb.output, hb.size, fun k hk _ => hb.block k hk⟩ (by cases hv : v.ownBlock <;> simp)
theorem OwnB.mono {v : Value} {B' : Nat} (h : OwnB B w v bs) (hB : B' ≤ B) : OwnB B' w v bs := by
  refine ⟨h.1, ?_⟩
  rcases h.2 with h2 | ⟨g, cap, cur, hv, hg, r⟩
  · exact Or.inl h2
  · exact Or.inr ⟨g, cap, cur, hv, Nat.le_trans hB hg, r⟩
theorem OwnB.row {v : Value} (h : OwnB B w v bs) (h0 : 0 < bs.length) : ∃ g cap, v = .slice (some ⟨g, 0, none⟩) bs.length cap := by
  rcases h.2 with ⟨_, hn⟩ | ⟨g, cap, cur, rfl, _⟩
  · omega
  · exact ⟨g, cap, rfl⟩
theorem OwnB.block (h : OwnB B w (.slice (some ⟨g, 0, none⟩) n cap) bs) : B ≤ g ∧ g < w.heap.size := World.ownsRow.lt h g rfl
end
theorem make_bools (n : Nat) (hn : n ≤ 35184372088832) (w : World) : (Instr.makeSlice 60 (.int .i64 (n : Int)) (.int .i64 (n : Int))).run Try.prog w = .ok (.slice (some ⟨w.heap.size, 0, none⟩) n n) (w.alloc (.cells ((List.replicate n false).map Value.bool).toArray 4)) := by
  rw [run_make_row' (P := Try.prog) 60 4 (.bool false) 1 Try.underlying60 infoB rfl .i64 .i64 n (by omega) (by omega) w, madeCells_replicate]
  simp
theorem own_bools {B : Nat} (w : World) (bs : List Bool) (hB : B ≤ w.heap.size) (hm : bs.length ≤ maxLen) :
    OwnB B (w.alloc (.cells (bs.map Value.bool).toArray 4)) (.slice (some ⟨w.heap.size, 0, none⟩) bs.length bs.length) bs :=
  ⟨by simp, .inr ⟨w.heap.size, bs.length, _, rfl, hB, heap_alloc_new w _, Nat.le_refl _, hm, by simp, by simp [List.take_of_length_le]⟩⟩

def mkB (N : Nat) (w : World) : World := w.alloc (.cells ((bitL N 0).map Value.bool).toArray 4)
theorem make_bitL (n : Nat) (hn : n ≤ 35184372088832) (w : World) : (Instr.makeSlice 60 (.int .i64 (n : Int)) (.int .i64 (n : Int))).run Try.prog w = .ok (.slice (some ⟨w.heap.size, 0, none⟩) n n) (mkB n w) := by
  rw [make_bools n hn w]
  unfold mkB
  rw [bitL_zero]
theorem own_bitL (n : Nat) (hn : n ≤ 1000) (w : World) : OwnB w.heap.size (mkB n w) (.slice (some ⟨w.heap.size, 0, none⟩) n n) (bitL n 0) ∧ Below w.heap.size w (mkB n w) := by
  have h := own_bools (B := w.heap.size) w (bitL n 0) (Nat.le_refl _) (by rw [bitL_len]; unfold maxLen; omega)
  rw [bitL_len] at h
  exact ⟨h, (Below.refl _ _).alloc (Nat.le_refl _) _⟩
theorem wpList_copyB {ops : Array Oper} {o : Oper} {a : Act} {wr : World} {Q : Exit → Act → World → Prop} {rest : List Oper} (hg : o.guard = none) (s x : Operand)
    (hop : o.op = Op.call { callee := Callee.builtin Builtin.append, args := #[s, x], argTypes := #[60, 60] }) (B g cap : Nat) (bs : List Bool) (hs : a.eval s = .slice (some ⟨wr.heap.size, 0, none⟩) 0 0)
    (hx : a.eval x = .slice (some ⟨g, 0, none⟩) bs.length cap) (hown : OwnB B wr (.slice (some ⟨g, 0, none⟩) bs.length cap) bs) (hl : bs.length ≤ 1000)
    (hK : ∀ v' w', OwnB wr.heap.size w' v' bs → Below wr.heap.size wr w' → wpList Try.prog ops Q rest (a.put o.dst v') w') : wpList Try.prog ops Q (o :: rest) a (wr.alloc (.cells #[] 4)) := by
  obtain ⟨i0, hi, hz0, hz1, hz2⟩ := info_parts infoB
  refine wpList_append_own _ hg s x 60 hop wr.heap.size 4 i0 (.bool false) 1 1 Try.underlying60 hi hz0 hz1 hz2 rfl (by decide) _ _ _ hs (World.ownsRow_made wr #[] 0 (Nat.le_refl _) (Nat.zero_le _) rfl) ⟨g, 0, none⟩ bs.length cap (bs.map Value.bool) hx ?_ ?_ ?_ ?_ ?_ ?_ ?_
  · simp
  · intro j u hj
    have hjn : j < bs.length := by
      have := (List.getElem?_eq_some_iff.1 hj).1
      simpa using this
    rw [Addr.add_lit, Nat.zero_add]
    refine Lib.cell?_alloc_some _ ?_
    rw [hown.cell j hjn]
    simpa [List.getElem?_eq_getElem hjn] using hj
  · intro u hu
    obtain ⟨x, _, rfl⟩ := List.mem_map.1 hu
    rfl
  · unfold maxLen; omega
  · omega
  · simp
  · intro v' w1 h1 h2 _
    refine hK v' w1 (by unfold OwnB; simpa using h1) ?_
    exact ((Below.refl _ wr).alloc (Nat.le_refl _) _).grown h2 (by simp) (by intro k hk; simp [Value.ownBlock] at hk; omega)

set_option maxRecDepth 20000 in
set_option maxHeartbeats 4000000 in
theorem RLower_any {m N : Nat} {W X : List (List Nat)} (vt : Value) (u : Nat) (w : World) (ht : RT W X w vt) (hk : Tk m N W X) (hu : u < N) :
    Calls Try.prog 58 #[vt, .int .i64 (u : Nat)] w fun e w' => ∃ g cap, e = .returned (.slice (some ⟨g, 0, none⟩) N cap) ∧ OwnB w.heap.size w' (.slice (some ⟨g, 0, none⟩) N cap) (bitL N (lowW X N (W.getD u []))) ∧ Below w.heap.size w w' := by
  have hul : u < W.length := by rw [hk.lw]; exact hu
  have hN := hk.small
  have hpos := hk.pos
  have hr := ht
  obtain ⟨vW, vP, vX, P, rfl, hW, _, _⟩ := ht
  have HBX := Lib.hid (BoxI.made vW vP vX w)
  have HR := Lib.hid hr
  have HK := Lib.hid hk
  obtain ⟨wd, hwd⟩ : ∃ wd, W.getD u [] = wd := ⟨_, rfl⟩
  have hwm : wd ∈ W := by rw [← hwd, getDL hul]; exact List.getElem_mem hul
  have HWS := Lib.hid (fun s (hs : s ∈ wd) => hk.letter wd hwm s hs)
  have hwl := hk.short wd hwm
  obtain ⟨vW', vP', vX', P', e', hW1, _, hX1⟩ := hr.below HBX.out.hb
  obtain ⟨rfl, rfl, rfl⟩ : vW = vW' ∧ vP = vP' ∧ vX = vX' := by simpa using e'
  obtain ⟨gW, capW, wa, wc, eW, hgW, hwc, _, hrowW⟩ := hW1.cells u hul
  have hWD : W[u] = wd := by rw [← getDL hul]; exact hwd
  rw [hWD] at hgW hwc hrowW
  have HRW := Lib.hid hrowW
  have HX1 := Lib.hid hX1
  subst eW
  obtain ⟨aX, cX, eX⟩ := hX1.form
  subst eX
  have hlw := hk.lw
  have hlx := hk.lx
  have huW : (u : Int) < (N : Int) := by omega
  have hmk := make_bitL N (by omega)
  rw [hwd]
  rw [hlw] at HBX HR HX1 hgW HRW ⊢
  rw [hlx] at HBX HR HX1 hgW HRW ⊢
  have hgWl : gW < (w.alloc (.cells #[.slice (some ⟨gW, 0, none⟩) N capW, vP, .slice aX N cX] 36)).heap.size := World.block_lt_of_cell? _ _ hgW
  obtain ⟨w1, hw1⟩ : ∃ w1, w.alloc (.cells #[.slice (some ⟨gW, 0, none⟩) N capW, vP, .slice aX N cX] 36) = w1 := ⟨_, rfl⟩
  have hs1 : w1.heap.size = w.heap.size + 1 := by rw [← hw1]; simp
  rw [hw1] at HBX HX1 hgW hgWl HRW
  have HLX := Lib.hid hlx
  have HS1 := Lib.hid hs1
  obtain ⟨i0, hi, hz0, hz1, hz2⟩ := info_parts infoB
  clear hr hk hW hwm hW1 hX1 e' hwd hrowW hlw hlx hs1
  go_enter Try.func58, Try.ntmps58
  go_upto_region 1 with (fail)
  clear hw1
  have c0 := HBX.out.hh.at (i := 0) rfl
  go_upto_region 2 with (fail)
  obtain ⟨ho2, hb2⟩ := own_bitL N (by omega) w1
  obtain ⟨w2, hw2⟩ : ∃ w2, mkB N w1 = w2 := ⟨_, rfl⟩
  rw [hw2] at ho2 hb2 ⊢
  have cz := ho2.cell 0 (by rw [bitL_len]; exact hpos)
  have fz := ho2.free 0
  have h0N : (0 : Int) < (N : Int) := by omega
  have HO2 := Lib.hid ho2
  have HB2 := Lib.hid hb2
  clear hw2 ho2 hb2 c0 hmk
  go_upto_region 3 with (fail)
  have ho3 := HO2.out.put 0 true
  rw [bitL_set] at ho3
  have hb3 : Below w1.heap.size w1 (w2.setCell ⟨w1.heap.size, 0, none⟩ (.bool true)) := HB2.out.setCell (Nat.le_refl _) _
  obtain ⟨w3, hw3⟩ : ∃ w3, w2.setCell ⟨w1.heap.size, 0, none⟩ (.bool true) = w3 := ⟨_, rfl⟩
  rw [hw3] at ho3 hb3 ⊢
  have HO3 := Lib.hid (show OwnB w1.heap.size w3 (.slice (some ⟨w1.heap.size, 0, none⟩) N N) (bitL N 1) from ho3)
  have HB3 := Lib.hid hb3
  have c0 := (HBX.out.below hb3).hh.at (i := 0) rfl
  have cg := (hb3.cell (p := ⟨gW, u, none⟩) hgWl).trans hgW
  clear hw3 ho3 hb3 cz fz
  go_wp2
  go_loopw [5, 23] (fun s5 s23 wr => ∃ k : Nat, k ≤ wd.length ∧ s23 = .int .i64 k ∧ (∃ g cap, s5 = .slice (some ⟨g, 0, none⟩) N cap ∧ OwnB w1.heap.size wr (.slice (some ⟨g, 0, none⟩) N cap) (bitL N (lowW X N (wd.take k)))) ∧ Below w1.heap.size w1 wr) (fun _ i _ => wd.length - (intOf i).toNat)
  case atStart => exact ⟨0, Nat.zero_le _, rfl, ⟨_, _, rfl, HO3.out⟩, HB3.out⟩
  case round =>
    obtain ⟨k, hkl, rfl, ⟨go, co, rfl, ho⟩, hb⟩ := hrel
    by_cases hlt : k < wd.length
    · obtain ⟨bd, off, rfl, hcell⟩ := HRW.out (by omega)
      have hki : (k : Int) < (wd.length : Int) := by omega
      have hcs := hcell k hlt
      have hcx := (hb.cell (p := ⟨bd, off + k, none⟩) (World.block_lt_of_cell? _ _ hcs)).trans hcs
      have HSM := Lib.hid (HWS.out _ (List.getElem_mem hlt))
      have HTK := Lib.hid (show lowW X N (wd.take (k + 1)) = lowJ X wd[k] (lowW X N (wd.take k)) N by rw [take_succ' wd k hlt, lowW_snoc])
      obtain ⟨s, hs⟩ : ∃ s, wd[k] = s := ⟨_, rfl⟩
      obtain ⟨o, hoo⟩ : ∃ o, lowW X N (wd.take k) = o := ⟨_, rfl⟩
      rw [hs] at hcx HSM HTK
      rw [hoo] at HTK ho
      have hbl : (bitL N o).length = N := bitL_len N o
      obtain ⟨wo, rfl⟩ : ∃ wo : World, wo = wr := ⟨_, rfl⟩
      have HO := Lib.hid ho
      have HO' := Lib.hid (show OwnB w1.heap.size wo (.slice (some ⟨go, 0, none⟩) (bitL N o).length co) (bitL N o) by rw [hbl]; exact ho)
      have HB := Lib.hid hb
      have HBL := Lib.hid hbl
      have hle := hb.size
      clear hs hoo hcell hcs ho hb hbl c0 cg
      go_upto_region 7 with (at_builtin; refine wpList_copyB rfl _ _ rfl w1.heap.size go co (bitL N o) rfl (by rw [HBL.out]; rfl) HO'.out (by rw [HBL.out]; omega) ?_; intro v4 w4 ho4 hb4; obtain ⟨gm, cm, e4⟩ := ho4.row (by rw [HBL.out]; exact hpos); rw [HBL.out] at e4; subst e4; have HO4 := Lib.hid ho4; have HB4 := Lib.hid hb4; clear ho4 hb4)
      go_wp2
      go_loopw [32] (fun s32 wx => ∃ j : Nat, j ≤ N ∧ s32 = .int .i64 j ∧ OwnB wo.heap.size wx (.slice (some ⟨gm, 0, none⟩) N cm) (bitL N (lowJ X s o j)) ∧ Below wo.heap.size wo wx) (fun i _ => N - (intOf i).toNat)
      case atStart => exact ⟨0, Nat.zero_le _, rfl, HO4.out, HB4.out⟩
      case round =>
        obtain ⟨j, hjl, rfl, hoj, hbj⟩ := hrel
        by_cases hltj : j < N
        · have hji : (j : Int) < (N : Int) := by omega
          have cj := (HO.out.below hbj).cell j (by rw [HBL.out]; exact hltj)
          rw [bitL_get] at cj
          have hb1x : Below w1.heap.size w1 wr := HB.out.trans (hbj.mono HB.out.size)
          have HOJ := Lib.hid hoj
          have HBJ := Lib.hid hbj
          have HS := Lib.hid (show lowJ X s o (j + 1) = if Nat.testBit o j = true then lowJ X s o j ||| 2 ^ (stepX X j s) else lowJ X s o j from rfl)
          cases hbit : Nat.testBit o j with
          | true =>
            rw [hbit] at cj HS
            obtain ⟨r, hr1, hr2, hr3, hr4⟩ := HK.out.rowAt hltj
            obtain ⟨gX, capX, ra, rc, e, hgc, hrc, _, hrow⟩ := (HX1.out.below hb1x).cells j (by rw [HLX.out]; exact hltj)
            have HRR := Lib.hid (show stepX X j s = r.getD s 0 by unfold stepX; rw [hr2])
            rw [hr1] at hgc hrc hrow
            have hsr : s < r.length := by rw [hr3]; exact HSM.out
            obtain ⟨b2, off2, rfl, hcell2⟩ := hrow (by omega)
            have hcy := hcell2 s hsr
            have HG := Lib.hid (getDN (l := r) (i := s) hsr)
            have hyN := hr4 _ (List.getElem_mem hsr)
            obtain ⟨y, hy⟩ : ∃ y, r[s] = y := ⟨_, rfl⟩
            rw [hy] at hcy HG hyN
            obtain ⟨rfl, _, rfl⟩ := Value.slice.inj e
            have c2 := (HBX.out.below (hb1x.mono (Nat.le_refl _))).hh.at (i := 2) rfl
            have hsi : (s : Int) < (r.length : Int) := by omega
            have hyi : (y : Int) < (N : Int) := by omega
            obtain ⟨z0, cm0⟩ : ∃ z0, wr.cell? ⟨gm, y, none⟩ = some (.bool z0) := ⟨_, hoj.cell y (by rw [bitL_len]; exact hyN)⟩
            have fm0 := hoj.free y
            have HP := Lib.hid (hoj.put y true)
            have HSE := Lib.hid (show bitL N (lowJ X s o (j + 1)) = (bitL N (lowJ X s o j)).set y true by rw [HS.out, if_pos rfl, HRR.out, HG.out, bitL_set])
            clear hr1 hr2 hr3 hr4 hrow hcell2 hy e hoj hbj hb1x hbit hyN
            go_wp2
            go_roundw
            case rel => exact ⟨j + 1, by omega, by go_num, by rw [HSE.out]; exact HP.out, HBJ.out.setCell (HOJ.out.block).1 _⟩
            case measure => simp [intOf]; omega
          | false =>
            rw [hbit] at cj HS
            have HSE := Lib.hid (show lowJ X s o (j + 1) = lowJ X s o j by rw [HS.out]; simp)
            clear hoj hbj hb1x hbit
            go_wp2
            go_roundw
            case rel => exact ⟨j + 1, by omega, by go_num, by rw [HSE.out]; exact HOJ.out, HBJ.out⟩
            case measure => simp [intOf]; omega
        · obtain rfl : j = N := by omega
          have hji : ¬ (j : Int) < (j : Int) := by omega
          have HOJ := Lib.hid hoj
          have HBJ := Lib.hid hbj
          clear hoj hbj
          go_wp2
          go_roundw
          case rel => exact ⟨k + 1, by omega, by go_num, ⟨_, _, rfl, by rw [HTK.out]; exact HOJ.out.mono hle⟩, HB.out.trans (HBJ.out.mono hle)⟩
          case measure => simp [intOf]; omega
    · obtain rfl : k = wd.length := by omega
      have hki : ¬ ((wd.length : Nat) : Int) < (wd.length : Int) := by omega
      rw [List.take_length] at ho
      have HO := Lib.hid ho
      have HB := Lib.hid hb
      clear ho hb
      go_wp2
      go_ret
      exact ⟨_, _, rfl, HO.out.mono (by rw [HS1.out]; omega), (HBX.out.below HB.out).hb⟩
end Go.Proofs.Ytmlhecfhhhebnaa

/- Drawn regions whose calls make memory, by one walk (wp_region_bel); the reference's Covers: the walk. -/
namespace Go.Proofs.Ytmlhecfhhhebnaa
open Go.RowKit
attribute [local go_sem] Oper.semAt_some

/-- A world in which all that lay in w lies. -/
structure BelW (w : World) where
  v : World
  h : Below w.heap.size w v
instance belWInh (w : World) : Inhabited (BelW w) := ⟨⟨w, Below.refl _ _⟩⟩
theorem wp_region_bel {P : Program} {id : Nat} {Q : Exit → Act → World → Prop} {a : Act} {w : World} {l : List Oper} (hm : P.follows .mixedOrders = true) (hB : Region.lexB .any l.toArray = true)
    (h : wpQuiet P l.toArray (fun w' => ∃ p : BelW w, w' = p.v) (fun a' => ∀ w', (∃ p : BelW w, w' = p.v) → Q .normal a' w') l a) : (Code.region id l.toArray true).wp P Q a w :=
  wp_region_quiet (C := fun w' => ∃ p : BelW w, w' = p.v) hm hB ⟨⟨w.drew, (Below.refl _ _).drew⟩, rfl⟩ (by simpa using h)
theorem BelW.of {w w' : World} (h : ∃ p : BelW w, w' = p.v) : Below w.heap.size w w' := by
  obtain ⟨p, rfl⟩ := h
  exact p.h
theorem BelW.cell {w : World} {a : Addr} {u : Value} (hb : a.block < w.heap.size) (h : w.cell? a = some u) (p : BelW w) : p.v.cell? a = some u := (p.h.cell hb).trans h
theorem Calls.bel_of {P : Program} {f : FuncId} {args : Array Value} {w : World} {p : BelW w} {v : Value}
    (h : Calls P f args p.v fun e w' => e = .returned v ∧ Below p.v.heap.size p.v w') : Calls P f args p.v fun e w'' => e = .returned v ∧ ∃ p' : BelW w, w'' = p'.v :=
  h.mono fun _ w' ⟨he, hb⟩ => ⟨he, ⟨w', p.h.trans (hb.mono p.h.size)⟩, rfl⟩

theorem Fz.low {w : World} {v : Value} {xs : List Int} (h : Fz (fun _ => True) w v xs) : Fz (fun k => k < w.heap.size) w v xs := by
  obtain ⟨a, c, rfl, h1, h2, h3⟩ := h
  refine ⟨a, c, rfl, h1, h2, fun hne => ?_⟩
  obtain ⟨b, off, rfl, _, hb, hc⟩ := h3 hne
  exact ⟨b, off, rfl, hb, hb, hc⟩

set_option maxRecDepth 20000 in
set_option maxHeartbeats 4000000 in
theorem RCovers_any {K n : Nat} (vt : Value) (u : Nat) (w : World) (hv : validB K n = true) (ht : RT (wordsG K n) (nextG K n) w vt) (hu : u < (wordsG K n).length) :
    Calls Try.prog 57 #[vt, .int .i64 (u : Nat)] w fun e w' => ∃ v', e = .returned v' ∧ RowsF (fun _ => True) w.heap.size w' v' ((covL (wordsG K n) (nextG K n) u).map fun j => (wordsG K n).getD j []) ∧ Below w.heap.size w w' := by
  have hk := tkG hv
  have LB := Lib.hid (fun j (hj : j < (wordsG K n).length) => low_bel hv hu hj)
  have HCE := Lib.hid (show rcvTo (wordsG K n) (covB (wordsG K n) (nextG K n) u) (wordsG K n).length = (covL (wordsG K n) (nextG K n) u).map fun j => (wordsG K n).getD j [] from rfl)
  have h12 : ∀ y, y < (wordsG K n).length → lenX (wordsG K n) y ≤ 12 := fun y hy => by unfold lenX; rw [getDL hy]; exact hk.short _ (List.getElem_mem hy)
  have H12 := Lib.hid h12
  have hN := hk.small
  have hpos := hk.pos
  have hlu := h12 u hu
  obtain ⟨W, hW⟩ : ∃ W, wordsG K n = W := ⟨_, rfl⟩
  obtain ⟨X, hX⟩ : ∃ X, nextG K n = X := ⟨_, rfl⟩
  rw [hW] at hk LB HCE H12 hN hpos hlu ht hu ⊢
  rw [hX] at hk LB HCE ht ⊢
  obtain ⟨N, hNe⟩ : ∃ N, W.length = N := ⟨_, rfl⟩
  have hr := ht
  obtain ⟨vW, vP, vX, P, rfl, hWr, _, _⟩ := ht
  have HBX := Lib.hid (BoxI.made vW vP vX w)
  have RL := Lib.hid (fun (yv : Nat) (hy : yv < W.length) (w' : World) (h : RT W X w' (.agg #[vW, vP, vX])) => RLength_any (.agg #[vW, vP, vX]) yv w' h hk hy)
  have LO := Lib.hid (fun (w' : World) (h : RT W X w' (.agg #[vW, vP, vX])) => RLower_any (.agg #[vW, vP, vX]) u w' h hk hu)
  have HRW := Lib.hid hWr
  have HR := Lib.hid hr
  have hmix : Try.prog.follows .mixedOrders = true := by kernel_rfl
  obtain ⟨aW, cW, eW⟩ := hWr.form
  subst eW
  rw [hNe] at HBX RL LO HRW HR HCE H12 hN hpos hu LB ⊢
  have HNE := Lib.hid hNe
  have HMX := Lib.hid hmix
  obtain ⟨lo, hlo⟩ : ∃ lo, lowW X N (W.getD u []) = lo := ⟨_, rfl⟩
  rw [hlo] at LO LB
  have HU := Lib.hid hu
  obtain ⟨b, hb⟩ : ∃ b, lenX W u = b := ⟨_, rfl⟩
  have HLB := Lib.hid hb
  rw [hb] at hlu
  have hwr : IntKind.i64.wrap ((b : Int) - 1) = (b : Int) - 1 := IntWalk.i64_in _ (by omega)
  clear hr hk hWr hX hW hNe hlo hv h12 hu hmix hb
  go_enter Try.func57, Try.ntmps57
  go_wp2_with (go_at_call 58; refine (LO.out _ (HR.out.below HBX.out.hb)).mono ?_; rintro e w1 ⟨gL, cL, rfl, hol, hb1⟩)
  have HB1 := Lib.hid (HBX.out.below hb1)
  have HL1 := Lib.hid hol
  clear hol hb1
  go_loopw [5, 12] (fun s5 s12 wr => ∃ k : Nat, k ≤ N ∧ s12 = .int .i64 k ∧ RowsF (fun j => j < w.heap.size) w1.heap.size wr s5 (rcvTo W (covB W X u) k) ∧ Below w1.heap.size w1 wr) (fun _ i _ => N - (intOf i).toNat)
  case atStart => exact ⟨0, Nat.zero_le _, rfl, RowsF.nil _ _ _, Below.refl _ _⟩
  case round =>
    obtain ⟨k, hkl, rfl, hro, hbw⟩ := hrel
    by_cases hlt : k < N
    · have hki : (k : Int) < (N : Int) := by omega
      have hbk := HB1.out.below hbw
      have cok := (HL1.out.below hbw).cell k (by rw [bitL_len]; exact hlt)
      rw [bitL_get, LB.out k hlt] at cok
      have HSU := Lib.hid (rcv_succ W (covB W X u) k)
      have HCB := Lib.hid (show covB W X u k = (decide (lenX W k + 1 = b) && belG W X k u) by unfold covB; rw [HLB.out])
      have HRO := Lib.hid hro
      have HBW := Lib.hid hbw
      have HBK := Lib.hid hbk
      have hle1 := HB1.out.hb.size
      have hle := hbw.size
      have hrl := rcv_len W (covB W X u) k
      cases hbel : belG W X k u with
      | false =>
        rw [hbel] at cok HCB
        have HS := Lib.hid (show rcvTo W (covB W X u) (k + 1) = rcvTo W (covB W X u) k by rw [HSU.out, HCB.out]; simp)
        clear hbel hro hbw hbk
        go_upto_region 5 with (fail)
        refine wp_region_bel HMX.out (by kernel_rfl) ?_
        repeat (first | go_big_quiet_step (fail) | quiet_step (fail))
        refine wpQuiet_nil ?_
        intro wq hw'
        have hbq := BelW.of hw'
        clear hw'
        have HBQ := Lib.hid hbq
        clear hbq
        go_wp2
        go_roundw
        case rel => exact ⟨k + 1, by omega, by go_num, by rw [HS.out]; exact HRO.out.below HBQ.out, HBW.out.trans (HBQ.out.mono hle)⟩
        case measure => simp [intOf]; omega
      | true =>
        rw [hbel] at cok HCB
        have hlk := H12.out k hlt
        have RK := Lib.hid (RL.out k hlt)
        have RU := Lib.hid (RL.out u HU.out)
        rw [HLB.out] at RU
        have c0 : ∀ p : BelW wr, p.v.cell? ⟨w.heap.size, 0, none⟩ = some (.slice aW N cW) := fun p => BelW.cell HBK.out.hh.lt (HBK.out.hh.at (i := 0) rfl) p
        have c1 : ∀ p : BelW wr, p.v.cell? ⟨w.heap.size, 1, none⟩ = some vP := fun p => BelW.cell HBK.out.hh.lt (HBK.out.hh.at (i := 1) rfl) p
        have c2 : ∀ p : BelW wr, p.v.cell? ⟨w.heap.size, 2, none⟩ = some vX := fun p => BelW.cell HBK.out.hh.lt (HBK.out.hh.at (i := 2) rfl) p
        have HRP := Lib.hid (fun p : BelW wr => HR.out.below (HBK.out.hb.trans (p.h.mono HBK.out.hb.size)))
        obtain ⟨a, ha⟩ : ∃ a, lenX W k = a := ⟨_, rfl⟩
        rw [ha] at RK HCB hlk
        by_cases he : a + 1 = b
        · have hbe : ((a : Int) == (b : Int) - 1) = true := by simp; omega
          have HS := Lib.hid (show rcvTo W (covB W X u) (k + 1) = rcvTo W (covB W X u) k ++ [W.getD k []] by rw [HSU.out, HCB.out, decide_eq_true he]; simp)
          clear he hbel hro hbw hbk ha
          go_upto_region 5 with (fail)
          refine wp_region_bel HMX.out (by kernel_rfl) ?_
          repeat (first
            | go_big_quiet_step ((first
              | (go_at_call 29; (with_reducible refine Calls.bel_of (RK.out _ ?_)); exact HRP.out _)
              | (go_at_call 29; (with_reducible refine Calls.bel_of (RU.out _ ?_)); exact HRP.out _)))
            | quiet_step ((first
              | (go_at_call 29; (with_reducible refine Calls.bel_of (RK.out _ ?_)); exact HRP.out _)
              | (go_at_call 29; (with_reducible refine Calls.bel_of (RU.out _ ?_)); exact HRP.out _))))
          refine wpQuiet_nil ?_
          intro wq hw'
          have hbq := BelW.of hw'
          clear hw'
          have HBQ := Lib.hid hbq
          have cq := (HBK.out.below hbq).hh.at (i := 0) rfl
          obtain ⟨gr, capr, ur, er, _, _, hcr, hfr⟩ := HRW.out.at k (by rw [HNE.out]; exact hlt)
          obtain ⟨rfl, hxx, rfl⟩ := Value.slice.inj er
          clear hxx
          have hbq0 := (HBK.out.below hbq).hb
          have hcr2 := (hbq0.cell (p := ⟨gr, k, none⟩) (World.block_lt_of_cell? _ _ hcr)).trans hcr
          have HFR := Lib.hid (hfr.low.kept (Sm.of_below hbq0))
          obtain ⟨ua, uc, ue, _⟩ := hfr.slice
          subst ue
          have hgd := getDL (l := W) (i := k) (by rw [HNE.out]; exact hlt)
          rw [hgd] at HS
          have HRQ := Lib.hid (HRO.out.below hbq)
          have hleq := hbq.size
          clear hbq hbq0 hfr hcr er hgd c0 c1 c2
          go_wp2_with (at_builtin; refine wpList_appF rfl _ _ rfl (fun j => j < w.heap.size) w1.heap.size wq.heap.size u5 _ (rcvTo W (covB W X u) k) _ rfl (HRQ.out.alloc _) (HFR.out.kept (Sm.of_below ((Below.refl _ _).alloc (Nat.le_refl _) _))) rfl (Held.new _ _ [_]) (fun j hj e => by have := HRQ.out.own j e; have h2 : j < w.heap.size := hj; omega) (by omega) (by simp; omega) ?_; intro v4 w4 hr4 hg4 ho4; have HR4 := Lib.hid hr4; have HB4 := Lib.hid (((HBW.out.trans (HBQ.out.mono hle)).alloc (by omega) _).grown hg4 (by simp; omega) (fun j hj => by have := HRQ.out.own j hj; omega)); clear hr4 hg4 ho4)
          go_roundw
          case rel => exact ⟨k + 1, by omega, by go_num, by rw [HS.out]; exact HR4.out, HB4.out⟩
          case measure => simp [intOf]; omega
        · have hbe : ((a : Int) == (b : Int) - 1) = false := by simp; omega
          have HS := Lib.hid (show rcvTo W (covB W X u) (k + 1) = rcvTo W (covB W X u) k by rw [HSU.out, HCB.out, decide_eq_false he]; simp)
          clear he hbel hro hbw hbk ha
          go_upto_region 5 with (fail)
          refine wp_region_bel HMX.out (by kernel_rfl) ?_
          repeat (first
            | go_big_quiet_step ((first
              | (go_at_call 29; (with_reducible refine Calls.bel_of (RK.out _ ?_)); exact HRP.out _)
              | (go_at_call 29; (with_reducible refine Calls.bel_of (RU.out _ ?_)); exact HRP.out _)))
            | quiet_step ((first
              | (go_at_call 29; (with_reducible refine Calls.bel_of (RK.out _ ?_)); exact HRP.out _)
              | (go_at_call 29; (with_reducible refine Calls.bel_of (RU.out _ ?_)); exact HRP.out _))))
          refine wpQuiet_nil ?_
          intro wq hw'
          have hbq := BelW.of hw'
          clear hw'
          have HBQ := Lib.hid hbq
          clear hbq c0 c1 c2
          go_wp2
          go_roundw
          case rel => exact ⟨k + 1, by omega, by go_num, by rw [HS.out]; exact HRO.out.below HBQ.out, HBW.out.trans (HBQ.out.mono hle)⟩
          case measure => simp [intOf]; omega
    · obtain rfl : k = N := by omega
      have hki : ¬ (k : Int) < (k : Int) := by omega
      rw [HCE.out] at hro
      have HRO := Lib.hid hro
      have HBW := Lib.hid hbw
      have hle1 := HB1.out.hb.size
      clear hro hbw
      go_wp2
      go_ret
      exact ⟨_, rfl, (HRO.out.mono fun _ _ => trivial).base hle1, (HB1.out.below HBW.out).hb⟩
end Go.Proofs.Ytmlhecfhhhebnaa

/- MirrorBelow: the walks. -/
namespace Go.Proofs.Ytmlhecfhhhebnaa
open Go.RowKit
attribute [local go_sem] Oper.semAt_some

theorem okI_no3 {K : Nat} {n : Int} {xs ys : List Int} (h : okI K n [ys] = false) : okI K n [xs, ys] = false := by
  unfold okI at *
  simp only [List.all_cons, List.all_nil, Bool.and_true] at *
  cases h1 : validI K n <;> cases h2 : wordB (mirs K n.toNat) ys <;> simp_all
theorem rstep_value_w {P : Program} {ops : Array Oper} {Q : Exit → Act → World → Prop} {o : Oper} {a : Act} {w w' : World} {v : Value} {post : Value → World → Prop} (hw : Region.wanted o (yielded ops a.tmps) = true) (hr : (execOp a.eval o).run P w = .ok (.value v) w') (hp : post v w') : RStep P ops Q o a w post := by
  intro K hK
  rw [if_pos hw]
  refine .inl ?_
  unfold Oper.wp
  rw [hr]
  exact hK v w' hp
set_option maxRecDepth 20000 in
set_option maxHeartbeats 4000000 in
theorem BelowL_no (K : Nat) (n : Int) (vu vw : Value) (xs ys : List Int) (w : World) (hK : K < 256) (hx : Ints w vu xs) (hy : Ints w vw ys) (h : okI K n [ys] = false) :
    Calls Try.prog 14 #[grpI K n, vu, vw] w (TrueM w) := by
  have FN := Lib.hid (fun w' v' (ha : Args w' v' [ys]) => by have := fine_any K n v' [ys] w' hK ha; rw [h] at this; exact this)
  have AW := Lib.hid (fun w' => awake_any w')
  have OF := Lib.hid (fun w' => Of_any K n w')
  have LU := Lib.hid (fun w' (hb : Below (w.heap.size + 1) (w.alloc (.cells #[.int .u8 (K : Nat), .int .i64 n] 23)) w') => list_any vu xs w' (intsS hx hb))
  have LW := Lib.hid (fun w' (hb : Below (w.heap.size + 1) (w.alloc (.cells #[.int .u8 (K : Nat), .int .i64 n] 23)) w') => list_any vw ys w' (intsS hy hb))
  have HW := Lib.hid (fun w' (hb : Below (w.heap.size + 1) (w.alloc (.cells #[.int .u8 (K : Nat), .int .i64 n] 23)) w') => intsS hy hb)
  have BW := Lib.hid (fun u' v' w' (hi : Ints w' u' (xs.take 34)) (hj : Ints w' v' (ys.take 34)) => Below_no K n u' v' _ _ w' hK hi hj (okI_no3 (by rw [okI_take1]; exact h)))
  have CV := Lib.hid (fun v' w' (hi : Ints w' v' (ys.take 34)) => Covers_no K n v' _ w' hK hi (by rw [okI_take1]; exact h))
  have hlu : (xs.take 34).length ≤ 17592186044416 := by rw [List.length_take]; omega
  have hlw : (ys.take 34).length ≤ 17592186044416 := by rw [List.length_take]; omega
  obtain ⟨a, c, rfl, hx1⟩ := hx
  obtain ⟨a2, c2, rfl, hy1⟩ := hy
  unfold grpI at *
  clear hx1 hy1 h
  go_enter Try.func14, Try.ntmps14
  go_wp2_with (first
      | (go_at_call 20; refine (AW.out _).mono ?_; rintro e w9 ⟨rfl, hb9'⟩; have hb9 := chainS hb8 hb9')
      | (go_at_call 19; refine (FN.out _ _ (args1 (HW.out w7 hb7) _ rfl)).mono ?_; rintro e w8 ⟨rfl, hb8q⟩; have hb8' := below_al (Nat.le_refl _) hb8q; have hb8 := chainS hb7 hb8'; have g80 := (heldS hb8).at (i := 0) rfl; have g81 := (heldS hb8).at (i := 1) rfl)
      | (go_at_call 54; refine (CV.out v6 w6 (ho6.ints hlw)).mono ?_; rintro e w7 ⟨rfl, hb7'⟩; have hb7 := chainS hb6 hb7'; have g70 := (heldS hb7).at (i := 0) rfl; have g71 := (heldS hb7).at (i := 1) rfl)
      | (go_at_call 17; refine (LW.out w5 hb5).mono ?_; rintro e w6 ⟨v6, rfl, ho6, hb6'⟩; have hb6 := chainS hb5 hb6')
      | (go_at_call 16; refine (OF.out _).mono ?_; rintro e w5 ⟨rfl, hb5'⟩; have hb5 := chainS hb4 hb5')
      | (go_at_call 33; refine (BW.out v2 v3 w3 ((ho2.below hb3').ints hlu) (ho3.ints hlw)).mono ?_; rintro e w4 ⟨rfl, hb4'⟩; have hb4 := chainS hb3 hb4'; have g40 := (heldS hb4).at (i := 0) rfl; have g41 := (heldS hb4).at (i := 1) rfl)
      | (go_at_call 17; refine (LW.out w2 hb2).mono ?_; rintro e w3 ⟨v3, rfl, ho3, hb3'⟩; have hb3 := chainS hb2 hb3')
      | (go_at_call 17; refine (LU.out w1 hb1).mono ?_; rintro e w2 ⟨v2, rfl, ho2, hb2'⟩; have hb2 := chainS hb1 hb2')
      | (go_at_call 16; refine (OF.out _).mono ?_; rintro e w1 ⟨rfl, hb1q⟩; have hb1 := hb1q.mono (show w.heap.size + 1 ≤ _ by simp)))
  go_ret
  exact ⟨rfl, chainE hb9⟩

end Go.Proofs.Ytmlhecfhhhebnaa

/- MirrorBelow: the walks, one word. -/
namespace Go.Proofs.Ytmlhecfhhhebnaa
open Go.RowKit
attribute [local go_sem] Oper.semAt_some

set_option maxRecDepth 20000 in
set_option maxHeartbeats 8000000 in
theorem BelowL_half (K n : Nat) (vu vw : Value) (xs ys : List Int) (w : World) (hv : validB K n = true) (hx : Ints w vu xs) (hy : Ints w vw ys) (q1 : wordB (mirs K n) xs = false) (q2 : wordB (mirs K n) ys = true) :
    Calls Try.prog 14 #[.agg #[.int .u8 (K : Nat), .int .i64 (n : Nat)], vu, vw] w (TrueM w) := by
  have hK := K_lt hv
  have hok : okI K (n : Int) [ys] = true := by rw [okI_cast hv]; simp [q2]
  have FN := Lib.hid (fun w' v' (ha : Args w' v' [ys]) => by have := fine_any K (n : Int) v' [ys] w' hK ha; rw [hok] at this; exact this)
  have AW := Lib.hid (fun w' => awake_any w')
  have OF := Lib.hid (fun w' => Of_any K (n : Int) w')
  have WD := Lib.hid (fun w' (hi : Ints w' vu xs) => by have := Word_any K n vu xs w' hv hi; rw [q1] at this; exact this)
  have EL := Lib.hid (fun w' => Elements_any K n w' hv)
  have HPOS := Lib.hid (tkG hv).pos
  have n2 := word_nat q2
  have LU := Lib.hid (fun w' (hb : Below (w.heap.size + 1) (w.alloc (.cells #[.int .u8 (K : Nat), .int .i64 (n : Nat)] 23)) w') => list_any vu xs w' (intsS hx hb))
  have LW := Lib.hid (fun w' (hb : Below (w.heap.size + 1) (w.alloc (.cells #[.int .u8 (K : Nat), .int .i64 (n : Nat)] 23)) w') => by have := list_any vw ys w' (intsS hy hb); rw [List.take_of_length_le (by omega)] at this; exact this)
  have HU := Lib.hid (fun w' (hb : Below (w.heap.size + 1) (w.alloc (.cells #[.int .u8 (K : Nat), .int .i64 (n : Nat)] 23)) w') => intsS hx hb)
  have HW := Lib.hid (fun w' (hb : Below (w.heap.size + 1) (w.alloc (.cells #[.int .u8 (K : Nat), .int .i64 (n : Nat)] 23)) w') => intsS hy hb)
  have hiw := ix_lt hv q2
  have BW := Lib.hid (fun u' v' w' (hi : Ints w' u' (xs.take 34)) (hj : Ints w' v' ys) => Below_no K (n : Int) u' v' _ _ w' hK hi hj (okI_no1 (by rw [okI_take1, okI_cast hv]; simp [q1])))
  have CV := Lib.hid (fun v' w' (hi : Ints w' v' ys) => Covers_yes K n v' ys w' hv hi q2)
  have RN := Lib.hid (fun w' v' (ht : RT (wordsG K n) (nextG K n) w' v') (hi : Ints w' vw ys) => show Calls Try.prog 22 #[v', .int .i64 0, vw] w' fun e w'' => e = .returned (.int .i64 ((ix K n ys : Nat) : Int)) ∧ Below w'.heap.size w' w'' from RNumber_any v' 0 vw (natW ys) w' ht (tkG hv) (by rw [n2.1]; exact hi) (tkG hv).pos n2.2.1)
  have RC := Lib.hid (fun v' w' (ht : RT (wordsG K n) (nextG K n) w' v') => RCovers_any v' (ix K n ys) w' hv ht hiw)
  have LO := Lib.hid (fun v' w' (ht : RT (wordsG K n) (nextG K n) w' v') => RLower_any v' (ix K n ys) w' ht (tkG hv) hiw)
  have hN : (wordsG K n).length ≤ 120 := (tkG hv).small
  have hcl : ((covL (wordsG K n) (nextG K n) (ix K n ys)).map fun u => (wordsG K n).getD u []).length ≤ 1000000 := by
    rw [List.length_map]
    have := List.length_filter_le (covB (wordsG K n) (nextG K n) (ix K n ys)) (List.range (wordsG K n).length)
    rw [List.length_range] at this
    unfold covL; omega
  have SA := Lib.hid (fun (v1 v2 : Value) (w' : World) (B1 B2 : Nat) (h1 : RowsF (fun _ => True) B1 w' v1 ((covL (wordsG K n) (nextG K n) (ix K n ys)).map fun u => (wordsG K n).getD u [])) (h2 : RowsF (fun _ => True) B2 w' v2 ((covL (wordsG K n) (nextG K n) (ix K n ys)).map fun u => (wordsG K n).getD u [])) => by have := same_any v1 v2 _ _ w' h1 h2 hcl; rw [decide_eq_true rfl] at this; exact this)
  have hlu : (xs.take 34).length ≤ 17592186044416 := by rw [List.length_take]; omega
  have hlw := word_len q2
  obtain ⟨a, c, rfl, hx1⟩ := hx
  obtain ⟨a2, c2, rfl, hy1⟩ := hy
  obtain ⟨N, hNe⟩ : ∃ N, (wordsG K n).length = N := ⟨_, rfl⟩
  have HNE := Lib.hid hNe
  obtain ⟨iw, hiwe⟩ : ∃ iw, ix K n ys = iw := ⟨_, rfl⟩
  rw [hiwe] at CV RN RC LO SA hiw
  rw [hNe] at LO hiw hN
  unfold grpI at *
  clear hx1 hy1 hok hK n2 q1 q2 hv hNe hiwe hiw hcl
  go_enter Try.func14, Try.ntmps14
  go_wp2_with (first
      | (go_at_call 25; refine (WD.out w14 (HU.out w14 hb14)).mono ?_; rintro e w15 ⟨rfl, hb15'⟩; have hb15 := chainS hb14 hb15')
      | (go_at_call 20; refine (AW.out _).mono ?_; rintro e w14 ⟨rfl, hb14'⟩; have hb14 := chainS hb13 hb14'; have hT14 := hT13.below hb14' hT13.lt; have t140 := hT14.at (i := 0) rfl; have t141 := hT14.at (i := 1) rfl; have t142 := hT14.at (i := 2) rfl; have g140 := (heldS hb14).at (i := 0) rfl; have g141 := (heldS hb14).at (i := 1) rfl)
      | (go_at_call 43; refine (SA.out _ _ w12 _ _ (((((hr7.below hb8').below hb9').below hb10').below hb11').below hb12') hr12).mono ?_; rintro e w13 ⟨rfl, hb13'⟩; have hb13 := chainS hb12 hb13'; have hT13 := hT12.below hb13' hT12.lt; have t130 := hT13.at (i := 0) rfl; have t131 := hT13.at (i := 1) rfl; have t132 := hT13.at (i := 2) rfl)
      | (go_at_call 57; refine (RC.out _ w11 ((hq9.below hb10').below hb11')).mono ?_; rintro e w12 ⟨v12, rfl, hr12, hb12'⟩; have hb12 := chainS hb11 hb12'; have hT12 := hT11.below hb12' hT11.lt; have t120 := hT12.at (i := 0) rfl; have t121 := hT12.at (i := 1) rfl; have t122 := hT12.at (i := 2) rfl; obtain ⟨a12, n12, c12, rfl⟩ := hr12.nform)
      | (go_at_call 22; refine (RN.out w10 _ (hq9.below hb10') (HW.out w10 hb10)).mono ?_; rintro e w11 ⟨rfl, hb11'⟩; have hb11 := chainS hb10 hb11'; have hT11 := hT10.below hb11' hT10.lt; have t110 := hT11.at (i := 0) rfl; have t111 := hT11.at (i := 1) rfl; have t112 := hT11.at (i := 2) rfl)
      | ((with_reducible refine is_store 36 ?_); refine wpl_store_rt (by rfl) _ _ (by rfl) w9.heap.size (.slice (some ⟨gW, 0, none⟩) N cW) (.slice aP lP cP) (.slice aX lX cX) [.slice none 0 0, .slice none 0 0, .slice none 0 0] rfl (by rfl) (by rfl) (by rfl) (by rfl) (by rfl) (Held.made (by simp)) ?_; intro w10 hT10 hsm10 hsz10; have hb10' : Below w9.heap.size w9 w10 := hsm10.below ((Below.refl _ _).alloc (Nat.le_refl _) _) (Nat.le_refl _) (by simp); have hb10 := chainS hb9 hb10'; have t0 := hT10.at (i := 0) rfl; have t1 := hT10.at (i := 1) rfl; have t2 := hT10.at (i := 2) rfl; clear hsm10 hsz10)
      | (go_at_call 21; refine (EL.out w8).mono ?_; rintro e w9 ⟨v9, rfl, hrt9, hb9'⟩; have hb9 := chainS hb8 hb9'; have hq9 := hrt9.rt; clear hrt9; obtain ⟨gW, cW, aP, lP, cP, aX, lX, cX, rfl⟩ := RT.made hq9 HPOS.out; rw [HNE.out] at hq9; rw [HNE.out])
      | (go_at_call 19; refine (FN.out _ _ (args1 (HW.out w7 hb7) _ rfl)).mono ?_; rintro e w8 ⟨rfl, hb8q⟩; have hb8' := below_al (Nat.le_refl _) hb8q; have hb8 := chainS hb7 hb8'; have g80 := (heldS hb8).at (i := 0) rfl; have g81 := (heldS hb8).at (i := 1) rfl)
      | (go_at_call 54; refine (CV.out v6 w6 (ho6.ints hlw)).mono ?_; rintro e w7 ⟨v7, rfl, hr7, hb7'⟩; have hb7 := chainS hb6 hb7'; have g70 := (heldS hb7).at (i := 0) rfl; have g71 := (heldS hb7).at (i := 1) rfl; obtain ⟨a7, n7, c7, rfl⟩ := hr7.nform)
      | (go_at_call 17; refine (LW.out w5 hb5).mono ?_; rintro e w6 ⟨v6, rfl, ho6, hb6'⟩; have hb6 := chainS hb5 hb6')
      | (go_at_call 16; refine (OF.out _).mono ?_; rintro e w5 ⟨rfl, hb5'⟩; have hb5 := chainS hb4 hb5')
      | (go_at_call 33; refine (BW.out v2 v3 w3 ((ho2.below hb3').ints hlu) (ho3.ints hlw)).mono ?_; rintro e w4 ⟨rfl, hb4'⟩; have hb4 := chainS hb3 hb4'; have g40 := (heldS hb4).at (i := 0) rfl; have g41 := (heldS hb4).at (i := 1) rfl)
      | (go_at_call 17; refine (LW.out w2 hb2).mono ?_; rintro e w3 ⟨v3, rfl, ho3, hb3'⟩; have hb3 := chainS hb2 hb3')
      | (go_at_call 17; refine (LU.out w1 hb1).mono ?_; rintro e w2 ⟨v2, rfl, ho2, hb2'⟩; have hb2 := chainS hb1 hb2')
      | (go_at_call 16; refine (OF.out _).mono ?_; rintro e w1 ⟨rfl, hb1q⟩; have hb1 := hb1q.mono (show w.heap.size + 1 ≤ _ by simp)))
  go_ret
  exact ⟨rfl, chainE hb15⟩

end Go.Proofs.Ytmlhecfhhhebnaa
