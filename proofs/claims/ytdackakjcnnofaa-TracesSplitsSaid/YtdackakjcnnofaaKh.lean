/- The class data of a group out of its packed product table. -/
import Derived.Test.YtdackakjcnnofaaKg
namespace Go.Proofs.Ytdackakjcnnofaa

/-! ### the same numbers, over any product and inverse -/
def cjF (t : Nat → Nat → Nat) (iv : Nat → Nat) (c a : Nat) : Nat := t (t c a) (iv c)
def conjF (n : Nat) (t : Nat → Nat → Nat) (iv : Nat → Nat) (a b : Nat) : Bool := (List.range n).any fun c => cjF t iv c a == b
def firstF (n : Nat) (t : Nat → Nat → Nat) (iv : Nat → Nat) (a : Nat) : Bool := (List.range a).all fun b => !conjF n t iv b a
def repsF (n : Nat) (t : Nat → Nat → Nat) (iv : Nat → Nat) : List Nat := (List.range n).filter (firstF n t iv)
def clsF (n : Nat) (t : Nat → Nat → Nat) (iv : Nat → Nat) (a : Nat) : List Nat := (List.range n).filter (conjF n t iv a)
def invF (n : Nat) (t : Nat → Nat → Nat) (a : Nat) : Nat := ((List.range n).find? fun b => t a b == 0).getD 0
def ofF (n : Nat) (t : Nat → Nat → Nat) (iv : Nat → Nat) (R : List Nat) (b : Nat) : Int := match R.findIdx? (fun r => conjF n t iv r b) with
  | some i => (i : Int)
  | none => -1
def powF (t : Nat → Nat → Nat) (a : Nat) : Nat → Nat
  | 0 => 0
  | k + 1 => t (powF t a k) a
def ordF (n : Nat) (t : Nat → Nat → Nat) (a : Nat) : Nat := ((List.range n).find? fun m => powF t a (m + 1) == 0).getD 0 + 1
def fitsF (O : List Nat) (q : Nat) : Bool := primeB q && O.all fun o => (q - 1) % o == 0
def primeF (n d : Nat) (O : List Nat) : Nat := ((List.range 62).find? fun q => decide (max n d < q) && fitsF O q).getD 0
def cntF (t : Nat → Nat → Nat) (ps : List (Nat × Nat)) (r : Nat) : Nat := ps.countP fun p => t p.1 p.2 == r
def ksF (t : Nat → Nat → Nat) (R : List Nat) (C : List (List Nat)) : List (List (List Int)) :=
  (List.range R.length).map fun c => C.map fun D => R.map fun r => (cntF t (pairsL (C.getD c []) D) r : Int)
section
variable (E : List (List Nat))
theorem repsF_eq : repsN E E.length = repsF E.length (timesN E) (invN E) := rfl
theorem clsF_eq (a : Nat) : clsN E a = clsF E.length (timesN E) (invN E) a := rfl
theorem invF_eq (a : Nat) : invN E a = invF E.length (timesN E) a := rfl
theorem powF_eq (a : Nat) : ∀ k, powN E a k = powF (timesN E) a k
  | 0 => rfl
  | k + 1 => by unfold powN powF; rw [powF_eq a k]
theorem ordF_eq (a : Nat) : ordN E a = ordF E.length (timesN E) a := by
  unfold ordN ordF
  simp only [powF_eq]
theorem primeF_eq (d : Nat) : primeN E d = primeF E.length d ((List.range E.length).map (ordF E.length (timesN E))) := by
  unfold primeN primeF
  congr 2
  funext q
  congr 1
  unfold fitsN fitsF
  rw [List.all_map]
  congr 2
  funext a
  show ((q - 1) % ordN E a == 0) = _
  rw [ordF_eq]; rfl
theorem backF_eq : backC E = (repsN E E.length).map fun r => (ofF E.length (timesN E) (invN E) (repsN E E.length) (invN E r)).toNat := rfl
theorem ksF_eq : (List.range (repsN E E.length).length).map (constL E) = ksF (timesN E) (repsN E E.length) (classesN E) := rfl
end
/-! ### the packed table -/
def tK (tb a b : Nat) : Nat := Nat.land (Nat.shiftRight tb (Nat.mul 5 (Nat.add (Nat.mul 24 a) b))) 31
def iK (iv a : Nat) : Nat := Nat.land (Nat.shiftRight iv (Nat.mul 5 a)) 31
def totT (n tb : Nat) (t : Nat → Nat → Nat) (a b : Nat) : Nat := bif Nat.blt a n && Nat.blt b n then tK tb a b else t a b
def totI (n iv : Nat) (i : Nat → Nat) (a : Nat) : Nat := bif Nat.blt a n then iK iv a else i a
/-- What is known of a listed subgroup: its packed products and inverses; its classes, the classes of the inverses, the primes for 5, 4, .. numbers. -/
structure Cert where
  tb : Nat
  iv : Nat
  R : List Nat
  C : List (List Nat)
  bk : List Nat
  O : List Nat
  qs : List (Nat × Nat)
  ks : List (List (List Int))
def certT (els : List Nat) (tb : Nat) : Bool := els.zipIdx.all fun x => els.zipIdx.all fun y => Nat.blt (tK tb x.2 y.2) els.length && Nat.beq (els.getD (tK tb x.2 y.2) 999) (mulT x.1 y.1)
def certOk (els : List Nat) (c : Cert) (t : Nat → Nat → Nat) (i : Nat → Nat) : Bool :=
  certT els c.tb &&
  ((List.range els.length).all fun a => Nat.beq (invF els.length (totT els.length c.tb t) a) (iK c.iv a)) &&
  (repsF els.length (totT els.length c.tb t) (totI els.length c.iv i) == c.R) &&
  (c.R.map (clsF els.length (totT els.length c.tb t) (totI els.length c.iv i)) == c.C) &&
  (c.R.map (fun r => (ofF els.length (totT els.length c.tb t) (totI els.length c.iv i) c.R (totI els.length c.iv i r)).toNat) == c.bk) &&
  ((List.range els.length).map (ordF els.length (totT els.length c.tb t)) == c.O) &&
  (c.qs.all fun p => Nat.beq (primeF els.length p.1 c.O) p.2) &&
  (ksF (totT els.length c.tb t) c.R c.C == c.ks)
/-- The class data. -/
structure IsData (E : List (List Nat)) (d q : Nat) (c : Cert) (N : Nat) : Prop where
  q : primeN E d = q
  n : E.length = N
  reps : repsN E E.length = c.R
  cls : classesN E = c.C
  sz : (classesN E).map List.length = c.C.map List.length
  bk : backC E = c.bk
  ks : (List.range (repsN E E.length).length).map (constL E) = c.ks
  times : ∀ a b, a < N → b < N → timesN E a b = tK c.tb a b
section
variable {d : Nat} {e : Nat × List Nat × List Nat} {c : Cert}
theorem subE_length : (subE d e).length = e.2.2.length := by simp [subE]
theorem subE_at {a : Nat} (ha : a < e.2.2.length) : elP (subE d e) a = (elX e.2.2[a]).take d := by
  rw [elP, List.getD_eq_getElem?_getD, subE, List.getElem?_map, List.getElem?_eq_getElem ha]; rfl
theorem fits_pad (hf : fitsD d e = true) {a : Nat} (ha : a < e.2.2.length) : padP d (elP (subE d e) a) = elX e.2.2[a] := by
  rw [subE_at ha, padP]
  have := beq_iff_eq.1 (List.all_eq_true.1 hf _ (List.getElem_mem ha))
  rw [← this, List.take_append_drop]
theorem cert_times (he : e ∈ subL) (hf : fitsD d e = true) (hd : d ≤ 5) (h : Grp d (subE d e)) (hc : certT e.2.2 c.tb = true) {a b : Nat} (ha : a < e.2.2.length) (hb : b < e.2.2.length) :
    timesN (subE d e) a b = tK c.tb a b := by
  have hs := sub_in he
  have h1 := List.all_eq_true.1 hc (e.2.2[a], a) (List.mem_of_getElem? (i := a) (by rw [List.getElem?_zipIdx, List.getElem?_eq_getElem ha]; simp))
  have h2 := List.all_eq_true.1 h1 (e.2.2[b], b) (List.mem_of_getElem? (i := b) (by rw [List.getElem?_zipIdx, List.getElem?_eq_getElem hb]; simp))
  simp only [Bool.and_eq_true] at h2
  have hlt : tK c.tb a b < e.2.2.length := Nat.le_of_ble_eq_true h2.1
  have heq := Nat.eq_of_beq_eq_true h2.2
  obtain ⟨k, hk⟩ : ∃ k, tK c.tb a b = k := ⟨_, rfl⟩
  rw [hk] at hlt heq ⊢
  rw [List.getD_eq_getElem?_getD, List.getElem?_eq_getElem hlt, Option.getD_some] at heq
  have hla := subE_length (d := d) (e := e)
  have pa := h.perm _ (elP_mem (E := subE d e) (a := a) (by rw [hla]; exact ha))
  have pb := h.perm _ (elP_mem (E := subE d e) (a := b) (by rw [hla]; exact hb))
  have pk := h.perm _ (elP_mem (E := subE d e) (a := k) (by rw [hla]; exact hlt))
  have hm := (mulT_ok (hs.lt _ (List.getElem_mem ha)) (hs.lt _ (List.getElem_mem hb))).2
  have : mulP (elP (subE d e) a) (elP (subE d e) b) = elP (subE d e) k := by
    refine padP_inj (pa.mul pb) pk ?_
    rw [← padP_mul hd pa pb, fits_pad hf ha, fits_pad hf hb, fits_pad hf hlt, ← hm, ← heq]
  unfold timesN
  rw [this, numP_el h.nodup (by rw [hla]; exact hlt)]
theorem IsData.of (he : e ∈ subL) (hf : fitsD d e = true) (hd : d ≤ 5) (h : Grp d (subE d e)) (hc : ∀ t i, certOk e.2.2 c t i = true) {q : Nat} (hq : (d, q) ∈ c.qs) : IsData (subE d e) d q c e.2.2.length := by
  have hc := hc (timesN (subE d e)) (invN (subE d e))
  unfold certOk at hc
  simp only [Bool.and_eq_true] at hc
  obtain ⟨⟨⟨⟨⟨⟨⟨c1, c2⟩, c3⟩, c4⟩, c5⟩, c6⟩, c7⟩, c8⟩ := hc
  have hl := subE_length (d := d) (e := e)
  have hT : timesN (subE d e) = totT e.2.2.length c.tb (timesN (subE d e)) := by
    funext a b
    unfold totT
    by_cases hab : a < e.2.2.length ∧ b < e.2.2.length
    · have e1 : Nat.blt a e.2.2.length = true := Nat.ble_eq_true_of_le hab.1
      have e2 : Nat.blt b e.2.2.length = true := Nat.ble_eq_true_of_le hab.2
      rw [e1, e2]
      exact cert_times he hf hd h c1 hab.1 hab.2
    · have e1 : (Nat.blt a e.2.2.length && Nat.blt b e.2.2.length) = false := Bool.eq_false_iff.2 fun hc => by
        rw [Bool.and_eq_true] at hc
        exact hab ⟨Nat.le_of_ble_eq_true hc.1, Nat.le_of_ble_eq_true hc.2⟩
      rw [e1]; rfl
  have hI : invN (subE d e) = totI e.2.2.length c.iv (invN (subE d e)) := by
    funext a
    unfold totI
    by_cases ha : a < e.2.2.length
    · have e1 : Nat.blt a e.2.2.length = true := Nat.ble_eq_true_of_le ha
      rw [e1, invF_eq, hl, hT]
      exact Nat.eq_of_beq_eq_true (List.all_eq_true.1 c2 a (List.mem_range.2 ha))
    · have e1 : Nat.blt a e.2.2.length = false := Bool.eq_false_iff.2 fun hc => ha (Nat.le_of_ble_eq_true hc)
      rw [e1]; rfl
  have hR : repsN (subE d e) (subE d e).length = c.R := by
    rw [repsF_eq, hl, hT, hI]; exact beq_iff_eq.1 c3
  have hC : classesN (subE d e) = c.C := by
    have : classesN (subE d e) = (repsN (subE d e) (subE d e).length).map (clsF (subE d e).length (timesN (subE d e)) (invN (subE d e))) := rfl
    rw [this, hR, hl, hT, hI]; exact beq_iff_eq.1 c4
  refine ⟨?_, hl, hR, hC, by rw [hC], ?_, ?_, fun a b ha hb => cert_times he hf hd h c1 ha hb⟩
  · rw [primeF_eq, hl, hT, beq_iff_eq.1 c6]
    exact Nat.eq_of_beq_eq_true (List.all_eq_true.1 c7 (d, q) hq)
  · rw [backF_eq, hR, hl, hT, hI]; exact beq_iff_eq.1 c5
  · rw [ksF_eq, hR, hC, hT]; exact beq_iff_eq.1 c8
end
end Go.Proofs.Ytdackakjcnnofaa
