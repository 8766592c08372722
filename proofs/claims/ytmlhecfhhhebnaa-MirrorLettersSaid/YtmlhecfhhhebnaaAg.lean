/- What every law's statement asks beside its walk: a witness, the arguments opened, the form closed. -/
import Derived.Test.YtmlhecfhhhebnaaMs
import Derived.Test.YtmlhecfhhhebnaaRows
import Derived.ProofKit
import Derived.OpenShut
import Derived.SizedLaws
import Derived.Carry
import Derived.Lib.SmallJoins
import Derived.Stop.Joined
namespace Go.Proofs.Ytmlhecfhhhebnaa
open Go.RowKit Go.ChangeShapes Go.WideShapes Go.ChangeAt Go.WideElems Go.Joins Go.Deep

theorem ownK : ownKnob Try.prog.godebug = none := by kernel_rfl
theorem cellsInt : Try.prog.cellsOf 3 = 1 := by kernel_rfl
theorem bytesInt : Try.prog.bytesOf 3 = 8 := by kernel_rfl
theorem laidOut : laidOutB Try.prog = true := by kernel_rfl
set_option maxRecDepth 100000 in
theorem groupFields : ∃ f0 f1, Try.prog.underlying 23 = some (.struct #[f0, f1]) ∧ oneCellFields Try.prog #[f0, f1] = true ∧ f0.type = 5 ∧ f1.type = 3 :=
  ⟨_, _, Try.underlying23, by kernel_rfl, rfl, rfl⟩
theorem groupCells : Try.prog.cellsOf 23 = 2 := by kernel_rfl

section
variable {H : Type} {enc : TypeId × Value → H}

set_option maxRecDepth 100000 in
theorem group_arg {W : World} {base : Nat} {v0 : Value} {d0 : DataW H} {p0 : List MemPlace} (hok : Value.okWide Try.prog W .any base 23 v0) (h0 : DataW.Trod enc Try.prog W 0 (fun _ => true) true 23 v0 d0 p0) :
    ∃ (K : Nat) (n : Int), v0 = grpI K n ∧ K < 256 := by
  obtain ⟨f0, f1, hs, hone, e0, e1⟩ := groupFields
  obtain ⟨c0, c1, y0, y1, nn, rfl, _, _, t0, t1⟩ := open_agg2 hs hone groupCells hok h0
  rw [e0] at t0
  rw [e1] at t1
  obtain ⟨a, ha, _, hw⟩ := DataW.trod_int Try.underlying5 t0
  obtain ⟨b, hb, _, _⟩ := DataW.trod_int Try.underlying3 t1
  simp only [List.cons.injEq, and_true] at ha hb
  subst ha
  subst hb
  simp [Lit.wf, IntKind.min, IntKind.max, IntKind.signed, IntKind.bits] at hw
  exact ⟨a.toNat, b, by unfold grpI; rw [show ((a.toNat : Nat) : Int) = a by omega], by omega⟩

set_option maxRecDepth 100000 in
theorem slice_arg {W : World} {base : Nat} {v0 : Value} {d0 : DataW H} {p0 : List MemPlace} (hok : Value.okWide Try.prog W .any base 24 v0) (h0 : DataW.Trod enc Try.prog W 0 (fun _ => true) true 24 v0 d0 p0)
    (hs : ∀ elems spare, d0 = .slice elems spare → (elems.length + spare.length) * 8 ≤ reachBytes) (hlt : ∀ x ∈ p0, x.block < W.heap.size) : ∃ xs, Ints W v0 xs := by
  obtain ⟨a0, len, cap, rfl⟩ := okWide_slice Try.underlying24 hok
  obtain ⟨fuel0, hf⟩ := h0
  rcases open_ints Try.underlying24 Try.underlying3 cellsInt hf with ⟨hcs, hx⟩ | ⟨a, len', cap', zs, hcs, _, hl, hm, hz, hx, hcell, hwz⟩
  · simp [Value.cells] at hcs
    obtain ⟨rfl, rfl, rfl⟩ := hcs
    exact ⟨[], Ints.nil W⟩
  · simp [Value.cells] at hcs
    obtain ⟨rfl, rfl, rfl⟩ := hcs
    simp only [Prod.mk.injEq] at hx
    obtain ⟨rfl, rfl⟩ := hx
    simp only [if_true] at hz
    have hlen : (zs.take len).length = len := by simp; omega
    have hreach := hs _ _ rfl
    simp only [lits, List.length_map, List.length_take, List.length_drop, reachBytes] at hreach
    refine ⟨zs.take len, some a, cap, by rw [hlen], by rw [hlen]; omega, by rw [hlen]; exact hl, fun hne => ?_⟩
    have h0l : 0 < len := by rw [← hlen]; exact List.length_pos_iff.2 hne
    obtain ⟨b, off, spot⟩ := a
    have hspot : spot = none := by simpa [Addr.add] using World.cell?_spot (hcell 0 (by omega))
    subst hspot
    refine ⟨b, off, rfl, World.block_lt_of_cell? W _ (hcell 0 (by omega)), fun i hi => ?_⟩
    rw [hlen] at hi
    have := hcell i (by omega)
    rw [add_plain] at this
    rw [this]
    simp [List.getD, List.getElem?_eq_getElem (show i < zs.length by omega)]

set_option maxRecDepth 100000 in
theorem below_trodAll {W W' : World} (hb : Below W.heap.size W W') : ∀ {ts : List TypeId} {vs : List Value} {ds : List (DataW H)} {p : List MemPlace}, (∀ t ∈ ts, Try.prog.readableRec t = true ∧ t < Try.prog.types.size) →
    (∀ x ∈ p, x.block < W.heap.size) → DataW.TrodAll enc Try.prog W 0 (fun _ => true) true ts vs ds p → DataW.TrodAll enc Try.prog W' 0 (fun b => decide (b < W.heap.size)) true ts vs ds p
  | [], _, _, _, _, _, h => by
    obtain ⟨rfl, rfl, rfl⟩ := trodAll_nil h
    exact rfl
  | t :: ts, _, _, _, ht, hlt, h => by
    obtain ⟨v, vs1, d, ds1, a, b, rfl, rfl, rfl, h1, h2⟩ := trodAll_cons h
    refine trodAll_cons_mk (Below.trod laidOut (ht t List.mem_cons_self).1 (ht t List.mem_cons_self).2 h1 hb (fun x hx => hlt x (List.mem_append_left _ hx))) ?_
    exact below_trodAll hb (fun u hu => ht u (List.mem_cons_of_mem _ hu)) (fun x hx => hlt x (List.mem_append_right _ hx)) h2

set_option maxRecDepth 100000 in
/-- A law that answered true and left what lay before. -/
theorem post_law {spec : ChangeSpec} {fn : Func} {W W' : World} {args : Array Value} {ds : List (DataW H)} {p : List MemPlace} (hv : spec.vars = [])
    (hW : DataW.Whole enc Try.prog fn.params.toList spec.vars false W args.toList ds [] p)
    (hfn : spec.fn H (ds ++ []) = { results := [.lit (.bool true)], args := ds }) (hres : fn.resultTypes = #[4]) (hr : ∀ t ∈ fn.params.toList, Try.prog.readableRec t = true ∧ t < Try.prog.types.size)
    (hB : Below W.heap.size W W') : spec.post enc Try.prog fn false true false false W args (.bool true) W' := by
  have hlt : ∀ x ∈ p, x.block < W.heap.size := fun x hx => by simpa using hW.lt x hx
  refine ⟨ds, [], p, [], p, [], hW, ?_, ?_, ?_, hB.frame _, fun h => by cases h⟩
  · rw [hfn, hres]; exact trodAll_mk1 (shut_bool Try.underlying4 true)
  · rw [hfn]
    obtain ⟨p', q, hA, hV, rfl, _, _⟩ := hW
    rw [hv] at hV
    obtain ⟨_, rfl⟩ := trodVars_none hV
    rw [List.append_nil] at hlt ⊢
    exact below_trodAll hB hr hlt hA
  · rw [hfn, hv]; rfl
end
end Go.Proofs.Ytmlhecfhhhebnaa
