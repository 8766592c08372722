/- Ve Vf Vg Vi Vj Vh of the seat's texts, in this order. -/
import Derived.Test.YtdackakjcnnofaaA3
import Derived.Test.YtdackakjcnnofaaA2
import Derived.Deep.LoopGhost

/- Slices that are only read, known by their blocks' types; slices of them that grow. -/
namespace Go.Proofs.Ytdackakjcnnofaa
open Go.RowKit
attribute [local go_sem] Oper.semAt_some

/-- All blocks but those of type t are as they were. -/
structure KX (t : TypeId) (w w' : World) : Prop where
  size : w.heap.size ≤ w'.heap.size
  block : ∀ k, k < w.heap.size → typeAt w k ≠ some t → w'.heap[k]? = w.heap[k]?
section
variable {t s : TypeId} {w w' w2 : World}
theorem KX.refl (t : TypeId) (w : World) : KX t w w := ⟨Nat.le_refl _, fun _ _ _ => rfl⟩
theorem KX.of_below (h : Below w.heap.size w w') : KX t w w' := ⟨h.size, fun k hk _ => h.block k hk⟩
theorem KX.of_grown {row : Option Nat} (h : w.grownBy w' row) (hr : ∀ k, row = some k → typeAt w k = some t) : KX t w w' := ⟨h.size, fun k hk hne => h.block k hk fun e => hne (hr k e.symm)⟩
theorem KX.put {g : Nat} (hg : typeAt w g = some t) (j : Nat) (u : Value) : KX t w (w.setCell ⟨g, j, none⟩ u) :=
  ⟨by simp [World.setCell], fun k _ hne => Below.heap_setCell w ⟨g, j, none⟩ u k fun e => hne (by rw [e]; exact hg)⟩
theorem KX.ty (h : KX t w w') {k : Nat} (hk : typeAt w k = some s) (hne : s ≠ t) : typeAt w' k = some s := by
  rw [ty_block (h.block k (ty_lt hk) (by rw [hk]; exact fun e => hne (Option.some.inj e)))]; exact hk
theorem KX.trans (h : KX t w w') (h2 : KX t w' w2) : KX t w w2 :=
  ⟨Nat.le_trans h.size h2.size, fun k hk hne => (h2.block k (Nat.lt_of_lt_of_le hk h.size) (by rw [ty_block (h.block k hk hne)]; exact hne)).trans (h.block k hk hne)⟩
theorem KX.cell (h : KX t w w') {b o : Nat} {x : Option Value} (hb : typeAt w b = some s) (hne : s ≠ t) (hc : w.cell? ⟨b, o, none⟩ = x) : w'.cell? ⟨b, o, none⟩ = x :=
  (World.cell?_of_block (h.block b (ty_lt hb) (by rw [hb]; exact fun e => hne (Option.some.inj e)))).trans hc
end

/-- A slice whose cells are of type t; R says what each of them is. -/
def SlR {α : Type} (t : TypeId) (R : World → Value → α → Prop) (w : World) (v : Value) (L : List α) : Prop :=
  ∃ (a : Option Addr) (c : Nat), v = .slice a L.length c ∧ L.length ≤ 1000000 ∧ L.length ≤ c ∧
    (L ≠ [] → ∃ b off, a = some ⟨b, off, none⟩ ∧ typeAt w b = some t ∧ ∀ i (h : i < L.length), ∃ u, w.cell? ⟨b, off + i, none⟩ = some u ∧ R w u L[i])
abbrev Vec : World → Value → List Int → Prop := SlR 3 (fun _ u (x : Int) => u = .int .i64 x)
abbrev Vecs : World → Value → List (List Int) → Prop := SlR 48 Vec
abbrev Spcs : World → Value → List (List (List Int)) → Prop := SlR 46 Vecs
/-- What R says stays while blocks of type t alone change. -/
def KeepR {α : Type} (t : TypeId) (R : World → Value → α → Prop) : Prop := ∀ (w w' : World) (u : Value) (x : α), KX t w w' → R w u x → R w' u x
section
variable {α : Type} {t s : TypeId} {R : World → Value → α → Prop} {w w' : World} {v : Value} {L : List α}
theorem SlR.kx (h : SlR s R w v L) (hk : KX t w w') (hne : s ≠ t) (hR : KeepR t R) : SlR s R w' v L := by
  obtain ⟨a, c, rfl, h1, h2, h3⟩ := h
  refine ⟨a, c, rfl, h1, h2, fun hne' => ?_⟩
  obtain ⟨b, off, rfl, hb, hc⟩ := h3 hne'
  refine ⟨b, off, rfl, hk.ty hb hne, fun i hi => ?_⟩
  obtain ⟨u, h5, h6⟩ := hc i hi
  exact ⟨u, hk.cell hb hne h5, hR _ _ _ _ hk h6⟩
theorem SlR.nil (t : TypeId) (R : World → Value → α → Prop) (w : World) : SlR t R w (.slice none 0 0) [] := ⟨none, 0, rfl, by simp, by simp, fun h => absurd rfl h⟩
theorem SlR.len (h : SlR t R w v L) : L.length ≤ 1000000 := by obtain ⟨_, _, _, h1, _⟩ := h; exact h1
theorem SlR.form (h : SlR t R w v L) : ∃ a c, v = .slice a L.length c := by obtain ⟨a, c, h1, _⟩ := h; exact ⟨a, c, h1⟩
theorem SlR.one (h : SlR t R w v L) : v.oneCell' = true := by obtain ⟨a, c, rfl, _⟩ := h; rfl
theorem SlR.at (h : SlR t R w v L) (i : Nat) (hi : i < L.length) : ∃ b off c u, v = .slice (some ⟨b, off, none⟩) L.length c ∧ b < w.heap.size ∧ typeAt w b = some t ∧ w.cell? ⟨b, off + i, none⟩ = some u ∧ R w u L[i] := by
  obtain ⟨a, c, rfl, _, _, h4⟩ := h
  obtain ⟨b, off, rfl, hb, hc⟩ := h4 (fun e => by rw [e] at hi; simp at hi)
  obtain ⟨u, h5, h6⟩ := hc i hi
  exact ⟨b, off, c, u, rfl, ty_lt hb, hb, h5, h6⟩
theorem ne_vi : (48 : TypeId) ≠ 3 := by decide
theorem ne_si : (46 : TypeId) ≠ 3 := by decide
theorem ne_sv : (46 : TypeId) ≠ 48 := by decide
theorem Vec.keep (ht : t ≠ 3) : KeepR t Vec := fun _ _ _ _ hk h => SlR.kx h hk (Ne.symm ht) fun _ _ _ _ _ h => h
theorem Vecs.keep (ht : t ≠ 3) (hv : t ≠ 48) : KeepR t Vecs := fun _ _ _ _ hk h => SlR.kx h hk (Ne.symm hv) (Vec.keep ht)
theorem Spcs.keep (ht : t ≠ 3) (hv : t ≠ 48) (hs : t ≠ 46) : KeepR t Spcs := fun _ _ _ _ hk h => SlR.kx h hk (Ne.symm hs) (Vecs.keep ht hv)
/-- No block has this type: what only grows. -/
theorem KX.none_of_below (h : Below w.heap.size w w') : KX 1000000 w w' := KX.of_below h
theorem Vec.below {v : Value} {L : List Int} (h : Vec w v L) (hb : Below w.heap.size w w') : Vec w' v L := Vec.keep (t := 1000000) (by decide) _ _ _ _ (KX.of_below hb) h
theorem Vecs.below {v : Value} {L : List (List Int)} (h : Vecs w v L) (hb : Below w.heap.size w w') : Vecs w' v L := Vecs.keep (t := 1000000) (by decide) (by decide) _ _ _ _ (KX.of_below hb) h
theorem Spcs.below {v : Value} {L : List (List (List Int))} (h : Spcs w v L) (hb : Below w.heap.size w w') : Spcs w' v L := Spcs.keep (t := 1000000) (by decide) (by decide) (by decide) _ _ _ _ (KX.of_below hb) h
theorem Vec.ints {v : Value} {L : List Int} (h : Vec w v L) : Ints w v L := by
  obtain ⟨a, c, rfl, h1, h2, h3⟩ := h
  refine ⟨a, c, rfl, by omega, h2, fun hne => ?_⟩
  obtain ⟨b, off, rfl, hb, hc⟩ := h3 hne
  exact ⟨b, off, rfl, ty_lt hb, fun i hi => by obtain ⟨u, h5, rfl⟩ := hc i hi; exact h5⟩
theorem Vecs.args {v : Value} {L : List (List Int)} (h : Vecs w v L) : Args w v L := by
  obtain ⟨a, c, rfl, h1, h2, h3⟩ := h
  refine ⟨a, c, rfl, by omega, h2, fun hne => ?_⟩
  obtain ⟨b, off, rfl, hb, hc⟩ := h3 hne
  exact ⟨b, off, rfl, ty_lt hb, fun i hi => by obtain ⟨u, h5, h6⟩ := hc i hi; exact ⟨u, h5, h6.ints⟩⟩
theorem OwnI.vec {B : Nat} {v : Value} {xs : List Int} (h : OwnI 3 B w v xs) (hl : xs.length ≤ 1000000) : Vec w v xs := by
  obtain ⟨a, c, rfl, h1, h2, h3⟩ := h.ints (by omega)
  refine ⟨a, c, rfl, hl, h2, fun hne => ?_⟩
  obtain ⟨b, off, rfl, hb, hc⟩ := h3 hne
  exact ⟨b, off, rfl, own_ty h rfl, fun i hi => ⟨_, hc i hi, rfl⟩⟩
/-- The places from k on: 'v[k:]'. -/
theorem SlR.drop {g n cap : Nat} (h : SlR t R w (.slice (some ⟨g, 0, none⟩) n cap) L) {k : Nat} (hk : k ≤ n) : SlR t R w (.slice (if cap = k then some ⟨g, 0, none⟩ else some ⟨g, k, none⟩) (n - k) (cap - k)) (L.drop k) := by
  obtain ⟨a', c', he, h1, h2, h3⟩ := h
  obtain ⟨rfl, rfl, rfl⟩ := Value.slice.inj he
  refine ⟨_, cap - k, by rw [List.length_drop], by rw [List.length_drop]; omega, by rw [List.length_drop]; omega, fun hne => ?_⟩
  have hlt : k < L.length := by
    rcases Nat.lt_or_ge k L.length with h | h
    · exact h
    · exact absurd (List.drop_of_length_le h) hne
  obtain ⟨b, off, e, hb, hc⟩ := h3 (fun e => by rw [e] at hlt; simp at hlt)
  obtain ⟨rfl, rfl⟩ : g = b ∧ 0 = off := by simpa using e
  refine ⟨g, k, by rw [if_neg (by omega)], hb, fun i hi => ?_⟩
  rw [List.length_drop] at hi
  obtain ⟨u, h5, h6⟩ := hc (k + i) (by omega)
  exact ⟨u, by rw [Nat.zero_add] at h5; exact h5, by rw [List.getElem_drop]; exact h6⟩
end

/-- A slice that grows; its own cells from block B on. -/
def OwnG {α : Type} (t : TypeId) (R : World → Value → α → Prop) (B : Nat) (w : World) (v : Value) (L : List α) : Prop :=
  ∃ vs : List Value, w.ownsRow B t 1 v L.length vs ∧ ∀ (i : Nat) (u : Value) (x : α), vs[i]? = some u → L[i]? = some x → R w u x
section
variable {α : Type} {t s : TypeId} {R : World → Value → α → Prop} {B : Nat} {w w' : World} {v : Value} {L : List α}
theorem OwnG.nil (t : TypeId) (R : World → Value → α → Prop) (B : Nat) (w : World) : OwnG t R B w (.slice none 0 0) [] := ⟨[], World.ownsRow_nil w B t 1, by simp⟩
theorem OwnG.form (h : OwnG t R B w v L) : ∃ a c, v = .slice a L.length c := by
  obtain ⟨vs, ⟨_, h2⟩, _⟩ := h
  rcases h2 with ⟨rfl, hn⟩ | ⟨g, cap, cur, rfl, _⟩
  · exact ⟨none, 0, by rw [hn]⟩
  · exact ⟨_, _, rfl⟩
theorem OwnG.own (h : OwnG t R B w v L) {k : Nat} (hk : v.ownBlock = some k) : B ≤ k ∧ k < w.heap.size ∧ typeAt w k = some t := by
  obtain ⟨vs, ho, _⟩ := h
  have := World.ownsRow.lt ho k hk
  exact ⟨this.1, this.2, own_ty ho hk⟩
theorem OwnG.below (h : OwnG t R B w v L) (hb : Below w.heap.size w w') (hR : KeepR 1000000 R) : OwnG t R B w' v L := by
  obtain ⟨vs, ho, hr⟩ := h
  exact ⟨vs, own_sm (S := fun _ => True) ho (Sm.of_below hb) (fun _ _ => trivial), fun i u x h1 h2 => hR _ _ _ _ (KX.of_below hb) (hr i u x h1 h2)⟩
/-- Another slice grows. -/
theorem OwnG.grown {row : Option Nat} (h : OwnG t R B w v L) (hg : w.grownBy w' row) (hne : v.ownBlock = none ∨ v.ownBlock ≠ row) (hR : ∀ u x, R w u x → R w' u x) : OwnG t R B w' v L := by
  obtain ⟨vs, ho, hr⟩ := h
  exact ⟨vs, World.ownsRow.kept ho hg hne, fun i u x h1 h2 => hR _ _ (hr i u x h1 h2)⟩
theorem OwnG.mono (h : OwnG t R B w v L) {B' : Nat} (hB : B' ≤ B) : OwnG t R B' w v L := by
  obtain ⟨vs, ⟨h1, h2⟩, hr⟩ := h
  refine ⟨vs, ⟨h1, ?_⟩, hr⟩
  rcases h2 with h2 | ⟨g, cap, cur, hv, hg, r⟩
  · exact .inl h2
  · exact .inr ⟨g, cap, cur, hv, by omega, r⟩
theorem OwnG.slr (h : OwnG t R B w v L) (hl : L.length ≤ 1000000) : SlR t R w v L := by
  obtain ⟨vs, ho, hr⟩ := h
  have hvl : vs.length = L.length := by have := ho.1; omega
  rcases ho.2 with ⟨rfl, hn⟩ | ⟨g, cap, cur, rfl, hg, hh, hn, _⟩
  · have : L = [] := List.eq_nil_of_length_eq_zero hn
    subst this
    exact SlR.nil _ _ _
  · refine ⟨some ⟨g, 0, none⟩, cap, rfl, hl, hn, fun _ => ⟨g, 0, rfl, own_ty ho rfl, fun i hi => ?_⟩⟩
    have hvi : vs[i]? = some (vs[i]'(by omega)) := List.getElem?_eq_getElem (by omega)
    exact ⟨vs[i]'(by omega), by rw [Nat.zero_add, World.ownsRow.cellAt ho i (by omega), hvi], hr i _ _ hvi (List.getElem?_eq_getElem hi)⟩
/-- One place of it is another one. -/
theorem OwnG.stored {g n cap : Nat} (h : OwnG t R B w (.slice (some ⟨g, 0, none⟩) n cap) L) (j : Nat) {u : Value} {x : α} (hu : R w u x) (hR : KeepR t R) : OwnG t R B (w.setCell ⟨g, j, none⟩ u) (.slice (some ⟨g, 0, none⟩) n cap) (L.set j x) := by
  obtain ⟨vs, ho, hr⟩ := h
  have hn : n = L.length := by
    rcases ho.2 with ⟨h', _⟩ | ⟨g', cap', cur, h', _⟩
    · simp at h'
    · exact (Value.slice.inj h').2.1
  subst hn
  have hk : KX t w (w.setCell ⟨g, j, none⟩ u) := KX.put (own_ty ho rfl) j u
  refine ⟨vs.set j u, by rw [List.length_set]; exact (World.ownsRow.stored ho j u).1, fun i y z h1 h2 => ?_⟩
  by_cases e : j = i
  · subst e
    rw [List.getElem?_set_self' ] at h1 h2
    cases hv : vs[j]? with
    | none => rw [hv] at h1; simp at h1
    | some y0 =>
      cases hL : L[j]? with
      | none => rw [hL] at h2; simp at h2
      | some z0 =>
        rw [hv] at h1; rw [hL] at h2
        simp at h1 h2
        subst h1; subst h2
        exact hR _ _ _ _ hk hu
  · rw [List.getElem?_set_ne e] at h1 h2
    exact hR _ _ _ _ hk (hr i y z h1 h2)
theorem OwnG.free {g n cap : Nat} (h : OwnG t R B w (.slice (some ⟨g, 0, none⟩) n cap) L) (j : Nat) : w.frozen? ⟨g, j, none⟩ = false := by
  obtain ⟨vs, ho, _⟩ := h
  have hn : n = L.length := by
    rcases ho.2 with ⟨h', _⟩ | ⟨g', cap', cur, h', _⟩
    · simp at h'
    · exact (Value.slice.inj h').2.1
  subst hn
  exact World.ownsRow.frozenAt ho j
theorem OwnG.at (h : OwnG t R B w v L) (i : Nat) (hi : i < L.length) : ∃ g cap u, v = .slice (some ⟨g, 0, none⟩) L.length cap ∧ B ≤ g ∧ g < w.heap.size ∧ typeAt w g = some t ∧ w.cell? ⟨g, i, none⟩ = some u ∧ R w u L[i] := by
  obtain ⟨vs, ho, hr⟩ := h
  have hl : vs.length = L.length := by have := ho.1; omega
  rcases ho.2 with ⟨rfl, hn⟩ | ⟨g, cap, cur, rfl, hg, hh, _⟩
  · omega
  · have hcell := World.ownsRow.cellAt ho i (by omega)
    have hvi : vs[i]? = some (vs[i]'(by omega)) := List.getElem?_eq_getElem (by omega)
    exact ⟨g, cap, vs[i]'(by omega), rfl, hg, (Array.getElem?_eq_some_iff.1 hh).1, own_ty ho rfl, by rw [hcell, hvi], hr i _ _ hvi (List.getElem?_eq_getElem hi)⟩
/-- 'append' of what lies elsewhere. -/
theorem run_appG {ts ty : TypeId} (hts : Try.prog.underlying ts = some (.slice t)) (hi : (Try.prog.info? t).map (fun i => (i.zero, i.size, i.bytes)) = some (some (.slice none 0 0), 1, 24))
    (hkeep : KeepR t R) (hone : ∀ w u x, R w u x → u.oneCell' = true) (h : OwnG t R B w v L) {ad : Addr} {c : Nat} {us : List Value} {M : List α} (hul : us.length = M.length)
    (hc : ∀ (j : Nat) (u : Value), us[j]? = some u → w.cell? (ad.add j) = some u) (hr : ∀ (j : Nat) (u : Value) (x : α), us[j]? = some u → M[j]? = some x → R w u x) (hl : L.length + M.length < 1000000) (hB : B ≤ w.heap.size) :
    ∃ v' w', (Builtin.append_ #[ts, ts] ty #[v, .slice (some ad) M.length c]).run Try.prog w = .ok v' w' ∧ OwnG t R B w' v' (L ++ M) ∧ w.grownBy w' v.ownBlock ∧ (v'.ownBlock = v.ownBlock ∨ v'.ownBlock = some w.heap.size) := by
  obtain ⟨i, hi1, hz0, hz1, hz2⟩ := info_parts hi
  have hG := h
  obtain ⟨vs, ho, hrs⟩ := h
  have hvl : vs.length = L.length := by have := ho.1; omega
  obtain ⟨v', w', hrun, r1, r2, _, r4⟩ := run_append_own_at (P := Try.prog) w B ts ty t i (.slice none 0 0) 1 24 hts hi1 hz0 hz1 hz2 rfl (by decide) v L.length vs ho ad M.length c us (by omega) hc
    (fun x hx => by
      obtain ⟨j, hj, rfl⟩ := List.getElem_of_mem hx
      exact hone w _ _ (hr j _ (M[j]'(by omega)) (List.getElem?_eq_getElem hj) (List.getElem?_eq_getElem (by omega)))) (by unfold maxLen; omega) (by omega) hB
  have hk : KX t w w' := KX.of_grown r2 fun k hk => (hG.own hk).2.2
  refine ⟨v', w', hrun, ⟨vs ++ us, by rw [List.length_append]; exact r1, fun i x y h1 h2 => ?_⟩, r2, r4⟩
  by_cases hi : i < vs.length
  · rw [List.getElem?_append_left hi] at h1
    rw [List.getElem?_append_left (by omega)] at h2
    exact hkeep _ _ _ _ hk (hrs i x y h1 h2)
  · rw [List.getElem?_append_right (by omega)] at h1
    rw [List.getElem?_append_right (by omega), ← hvl] at h2
    exact hkeep _ _ _ _ hk (hr _ x y h1 h2)
/-- 'append(v, u)'. -/
theorem wpl_appG {ops : Array Oper} {o : Oper} {a : Act} {Q : Exit → Act → World → Prop} {rest : List Oper} (hg : o.guard = none) (x y : Operand) (ts : TypeId)
    (hop : o.op = Op.call { callee := Callee.builtin Builtin.append, args := #[x, y], argTypes := #[ts, ts] }) (hts : Try.prog.underlying ts = some (.slice t)) (hi : (Try.prog.info? t).map (fun i => (i.zero, i.size, i.bytes)) = some (some (.slice none 0 0), 1, 24))
    (hkeep : KeepR t R) (hone : ∀ w u x, R w u x → u.oneCell' = true) {u : Value} {l : α} {b : Nat} (hs : a.eval x = v) (h : OwnG t R B w v L) (hy : a.eval y = .slice (some ⟨b, 0, none⟩) 1 1) (hb : Held w b t [u]) (hu : R w u l) (hl : L.length + 1 < 1000000) (hB : B ≤ w.heap.size)
    (hK : ∀ v' w', OwnG t R B w' v' (L ++ [l]) → w.grownBy w' v.ownBlock → (v'.ownBlock = v.ownBlock ∨ v'.ownBlock = some w.heap.size) → wpList Try.prog ops Q rest (a.put o.dst v') w') : wpList Try.prog ops Q (o :: rest) a w := by
  refine wpList_plain hg fun K' hK' => ?_
  obtain ⟨v', w', hrun, r1, r2, r3⟩ := run_appG (ty := o.type) (M := [l]) (us := [u]) (ad := ⟨b, 0, none⟩) (c := 1) hts hi hkeep hone h rfl (fun j x hj => by
      match j, hj with
      | 0, hj => simp at hj; subst hj; simpa [Addr.add] using hb.at (i := 0) rfl) (fun j x y h1 h2 => by
      match j, h1, h2 with
      | 0, h1, h2 => simp at h1 h2; subst h1; subst h2; exact hu) (by simpa using hl) hB
  unfold Oper.wp
  simp [execOp, hop, resolve, invoke, builtin, hs, hy, Result.andThen]
  rw [List.length_singleton] at hrun
  rw [hrun]
  exact hK' _ _ (hK v' w' r1 r2 r3)
/-- 'append(v, us...)', us not empty. -/
theorem wpl_appGs {ops : Array Oper} {o : Oper} {a : Act} {Q : Exit → Act → World → Prop} {rest : List Oper} (hg : o.guard = none) (x y : Operand) (ts : TypeId)
    (hop : o.op = Op.call { callee := Callee.builtin Builtin.append, args := #[x, y], argTypes := #[ts, ts] }) (hts : Try.prog.underlying ts = some (.slice t)) (hi : (Try.prog.info? t).map (fun i => (i.zero, i.size, i.bytes)) = some (some (.slice none 0 0), 1, 24))
    (hkeep : KeepR t R) (hone : ∀ w u x, R w u x → u.oneCell' = true) {M : List α} {u : Value} (hs : a.eval x = v) (h : OwnG t R B w v L) (hy : a.eval y = u) (hu : SlR t R w u M) (hne : M ≠ []) (hl : L.length + M.length < 1000000) (hB : B ≤ w.heap.size)
    (hK : ∀ v' w', OwnG t R B w' v' (L ++ M) → w.grownBy w' v.ownBlock → (v'.ownBlock = v.ownBlock ∨ v'.ownBlock = some w.heap.size) → wpList Try.prog ops Q rest (a.put o.dst v') w') : wpList Try.prog ops Q (o :: rest) a w := by
  obtain ⟨a', c', rfl, h1, h2, h3⟩ := hu
  obtain ⟨b, off, rfl, hb, hc⟩ := h3 hne
  have hex : ∃ us : List Value, us.length = M.length ∧ ∀ i (hi : i < M.length), ∀ u, us[i]? = some u → w.cell? ⟨b, off + i, none⟩ = some u ∧ R w u M[i] := by
    refine ⟨(List.range M.length).map fun i => (w.cell? ⟨b, off + i, none⟩).getD undef, by simp, fun i hi u hu => ?_⟩
    obtain ⟨u', h5, h6⟩ := hc i hi
    rw [List.getElem?_map, List.getElem?_range hi] at hu
    simp only [Option.map_some, Option.some.injEq] at hu
    rw [h5] at hu
    simp at hu
    subst hu
    exact ⟨h5, h6⟩
  obtain ⟨us, hul, hus⟩ := hex
  refine wpList_plain hg fun K' hK' => ?_
  obtain ⟨v', w', hrun, r1, r2, r3⟩ := run_appG (ty := o.type) (M := M) (us := us) (ad := ⟨b, off, none⟩) (c := c') hts hi hkeep hone h hul (fun j x hj => by
      have hjl : j < M.length := by have := (List.getElem?_eq_some_iff.1 hj).1; omega
      have e2 : (⟨b, off, none⟩ : Addr).add j = ⟨b, off + j, none⟩ := by unfold Addr.add; split <;> simp_all
      rw [e2]
      exact (hus j hjl x hj).1) (fun j x y h1 h2 => by
      obtain ⟨hjl, rfl⟩ := List.getElem?_eq_some_iff.1 h2
      exact (hus j hjl x h1).2) hl hB
  unfold Oper.wp
  simp [execOp, hop, resolve, invoke, builtin, hs, hy, Result.andThen]
  rw [hrun]
  exact hK' _ _ (hK v' w' r1 r2 r3)
end
theorem info_v : (Try.prog.info? 48).map (fun i => (i.zero, i.size, i.bytes)) = some (some (.slice none 0 0), 1, 24) := by kernel_rfl
theorem info_vs : (Try.prog.info? 46).map (fun i => (i.zero, i.size, i.bytes)) = some (some (.slice none 0 0), 1, 24) := by kernel_rfl
end Go.Proofs.Ytdackakjcnnofaa

/- mod, over: numbers modulo the prime. -/
namespace Go.Proofs.Ytdackakjcnnofaa
open Go.RowKit
attribute [local go_sem] Oper.semAt_some

/-- The prime of a group in memory. -/
def PrimeAt (w : World) (bg q : Nat) : Prop := bg < w.heap.size ∧ w.cell? ⟨bg, 6, none⟩ = some (.int .i64 (q : Nat))
theorem PrimeAt.below {w w' : World} {bg q : Nat} (h : PrimeAt w bg q) (hb : Below w.heap.size w w') : PrimeAt w' bg q := ⟨Nat.lt_of_lt_of_le h.1 hb.size, (hb.cell (p := ⟨bg, 6, none⟩) h.1).trans h.2⟩
theorem mod_eq (n : Int) (q : Nat) (hq : 0 < q) : Int.tmod (Int.tmod n q + q) q = n % (q : Int) := by
  have hq' : (0 : Int) < q := by omega
  rw [Int.tmod_eq_emod_of_nonneg (a := Int.tmod n q + q) (by have := Int.lt_tmod_of_pos n hq'; omega)]
  rw [Int.tmod_eq_emod]
  split
  · rw [show ((0 : Nat) : Int) = 0 from rfl, Int.sub_zero, Int.add_emod_right, Int.emod_emod_of_dvd _ (Int.dvd_refl _)]
  · rw [Int.natAbs_natCast]
    rw [show n % (q : Int) - (q : Int) + (q : Int) = n % (q : Int) by omega, Int.emod_emod_of_dvd _ (Int.dvd_refl _)]
theorem tmod_small (n : Int) (q : Nat) (hq : 0 < q) (hq2 : q < 62) : -62 < Int.tmod n q ∧ Int.tmod n q < 62 := by
  have hq' : (0 : Int) < q := by omega
  have h1 := Int.tmod_lt_of_pos n hq'
  have h2 := Int.lt_tmod_of_pos n hq'
  omega
set_option maxHeartbeats 400000 in
theorem mod_any (bg q : Nat) (n : Int) (w : World) (h : PrimeAt w bg q) (hq : 0 < q) (hq2 : q < 62) :
    Calls Try.prog 50 #[.pointer (some ⟨bg, 0, none⟩), .int .i64 n] w fun e w' => e = .returned (.int .i64 (n % (q : Int))) ∧ Below w.heap.size w w' := by
  obtain ⟨hlt, hc⟩ := h
  have HME := Lib.hid (mod_eq n q hq)
  have hts := tmod_small n q hq hq2
  obtain ⟨m, hm⟩ : ∃ m, Int.tmod n q = m := ⟨_, rfl⟩
  rw [hm] at HME hts
  have hq0 : ¬ (q : Int) = 0 := by omega
  have hq0' : ((q : Int) == 0) = false := by simp; omega
  have hw2 : IntKind.i64.wrap (m + (q : Int)) = m + (q : Int) := IntWalk.i64_in _ (by omega)
  clear hq
  go_enter Try.func50, Try.ntmps50
  go_wp2_with fail
  go_quiet (fail)
  go_wp2
  go_ret
  exact ⟨ret_int HME.out, below_drewN (Below.refl _ _) _⟩
theorem mod_mul (a b bg q : Nat) (w : World) (h : PrimeAt w bg q) (hq : 0 < q) (hq2 : q < 62) :
    Calls Try.prog 50 #[.pointer (some ⟨bg, 0, none⟩), .int .i64 ((a : Int) * (b : Int))] w fun e w' => e = .returned (.int .i64 ((a * b % q : Nat) : Int)) ∧ Below w.heap.size w w' := by
  have := mod_any bg q ((a : Int) * (b : Int)) w h hq hq2
  rw [show (a : Int) * (b : Int) % (q : Int) = ((a * b % q : Nat) : Int) by rw [Int.natCast_emod, Int.natCast_mul]] at this
  exact this
set_option maxHeartbeats 400000 in
theorem over_any (bg q n : Nat) (w : World) (h : PrimeAt w bg q) (hq : 0 < q) (hq2 : q < 62) (hn : n < 1000000000) (hok : okOver q n = true) :
    Calls Try.prog 51 #[.pointer (some ⟨bg, 0, none⟩), .int .i64 (n : Nat)] w fun e w' => e = .returned (.int .i64 (overN q n : Nat)) ∧ Below w.heap.size w w' := by
  have HP := Lib.hid h
  have HM := Lib.hid (fun (a : Nat) (w' : World) (h' : PrimeAt w' bg q) => mod_mul a n bg q w' h' hq hq2)
  have HNO := Lib.hid (fun x (h1 : 1 ≤ x) (h2 : x < overN q n) => over_no (q := q) (n := n) h1 h2)
  have HY := Lib.hid (okOver_iff.1 hok)
  have hle := over_lt hq hok
  have hpo := over_pos q n
  obtain ⟨X, hX⟩ : ∃ X, overN q n = X := ⟨_, rfl⟩
  rw [hX] at HNO HY hle hpo ⊢
  clear h hok hX hq
  go_enter Try.func51, Try.ntmps51
  go_wp2
  go_loopw [5] (fun ix wr => ∃ k : Nat, 1 ≤ k ∧ k ≤ X ∧ ix = .int .i64 k ∧ Below w.heap.size w wr) (fun ix _ => X - (intOf ix).toNat)
  case atStart => exact ⟨1, by omega, hpo, rfl, Below.refl _ _⟩
  case round =>
    obtain ⟨k, hk1, hk, rfl, hb⟩ := hrel
    have HB := Lib.hid hb
    have M := Lib.hid (HM.out k wr (HP.out.below hb))
    have hsz := hb.size
    have hwm : IntKind.i64.wrap ((k : Int) * (n : Int)) = (k : Int) * (n : Int) := IntWalk.i64_in _ (by
      have h1 : (k : Int) * (n : Int) ≤ 62 * 1000000000 := Int.mul_le_mul (by omega) (by omega) (by omega) (by omega)
      have h2 : 0 ≤ (k : Int) * (n : Int) := Int.mul_nonneg (by omega) (by omega)
      omega)
    clear hb
    by_cases he : k = X
    · subst he
      rw [HY.out] at M
      go_wp2_with (go_at_call 50; refine M.out.mono ?_; rintro e w2 ⟨rfl, hb2⟩; have HB2 := Lib.hid hb2; clear hb2)
      go_ret
      exact ⟨rfl, HB.out.trans (HB2.out.mono hsz)⟩
    · have hne := HNO.out k hk1 (by omega)
      obtain ⟨m, hm⟩ : ∃ m, k * n % q = m := ⟨_, rfl⟩
      rw [hm] at M hne
      have hne' : (((m : Nat) : Int) != 1) = true := by simp; omega
      have hne2 : ¬ ((m : Nat) : Int) = 1 := by omega
      have hkX : k + 1 ≤ X := by omega
      clear hm hne
      go_wp2_with (go_at_call 50; refine M.out.mono ?_; rintro e w2 ⟨rfl, hb2⟩; have HB2 := Lib.hid hb2; clear hb2)
      go_roundw
      case rel => exact ⟨k + 1, by omega, hkX, by go_num, HB.out.trans (HB2.out.mono hsz)⟩
      case measure => simp [intOf]; omega
end Go.Proofs.Ytdackakjcnnofaa

/- Clone of vectors; plus. -/
namespace Go.Proofs.Ytdackakjcnnofaa
open Go.RowKit
attribute [local go_sem] Oper.semAt_some

theorem OwnI.storedN {B g cap n : Nat} {w : World} {xs : List Int} (h : OwnI 3 B w (.slice (some ⟨g, 0, none⟩) n cap) xs) (hn : n = xs.length) (j : Nat) (y : Int) :
    OwnI 3 B (w.setCell ⟨g, j, none⟩ (.int .i64 y)) (.slice (some ⟨g, 0, none⟩) n cap) (xs.set j y) := by
  subst hn; exact h.stored j y
set_option maxHeartbeats 400000 in
theorem CloneV_any (v : Value) (xs : List Int) (w : World) (hv : Ints w v xs) :
    Calls Try.prog 85 #[v] w fun e w' => ∃ v', e = .returned v' ∧ OwnI 3 w.heap.size w' v' xs ∧ Below w.heap.size w w' := by
  obtain ⟨a, c, rfl, hlen, hcl, hc⟩ := hv
  obtain ⟨i0, hi, hz0, hz1, hz2⟩ := info_parts info3
  have q22 : ∀ (w : World) (a : Option Addr) (n c n' c' : Nat), (binOp .eql 48 (.slice a n c) (.slice none n' c')).run Try.prog w = .ok (.bool a.isNone) w := fun w a n c n' c' => Lib.run_eql_slice_nil w _ _ a n c n' c' Try.underlying48
  have A := Lib.hid hc
  clear hc
  cases a with
  | none =>
    have hx : xs = [] := by
      by_cases h : xs = []
      · exact h
      · obtain ⟨b, off, h1, _⟩ := A.out h; cases h1
    subst hx
    go_enter Try.func85, Try.ntmps85
    go_wp2
    go_ret
    exact ⟨_, rfl, OwnI.nil _ _ _, Below.refl _ _⟩
  | some ad =>
    go_enter Try.func85, Try.ntmps85
    go_wp2_with (at_builtin; refine wpList_append_own _ rfl _ _ 48 rfl w.heap.size 3 i0 (.int .i64 0) 1 8 Try.underlying48 hi hz0 hz1 hz2 rfl (by decide) _ _ _ rfl (World.ownsRow_made w #[] 0 (Nat.le_refl _) (Nat.zero_le _) rfl) ad xs.length c (xs.map (Value.int .i64)) rfl ?qc1 ?qc2 ?qc3 ?qc4 ?qc5 ?qc6 ?_)
    case qc1 => simp
    case qc2 =>
      intro j u hj
      have hjn : j < xs.length := by
        have := (List.getElem?_eq_some_iff.1 hj).1
        simpa using this
      obtain ⟨b, off, h1, hlt, hcell⟩ := A.out (by intro h; simp [h] at hjn)
      obtain rfl : ad = ⟨b, off, none⟩ := by simpa using h1
      rw [Addr.add_lit]
      refine Lib.cell?_alloc_some _ ?_
      rw [hcell j hjn]
      simpa [List.getElem?_eq_getElem hjn] using hj
    case qc3 => intro u hu; obtain ⟨x, _, rfl⟩ := List.mem_map.1 hu; rfl
    case qc4 => unfold maxLen; omega
    case qc5 => omega
    case qc6 => simp
    intro v' w1 hown hgrow hnil
    go_wp2
    go_ret
    refine ⟨v', rfl, by unfold OwnI; simpa using hown, ?_⟩
    exact ((Below.refl _ w).alloc (Nat.le_refl _) _).grown hgrow (by simp) (by intro k hk; simp [Value.ownBlock] at hk; omega)
theorem ownG_made {α : Type} {t : TypeId} {R : World → Value → α → Prop} (w : World) : OwnG t R w.heap.size (w.alloc (.cells #[] t)) (.slice (some ⟨w.heap.size, 0, none⟩) 0 0) ([] : List α) :=
  ⟨[], World.ownsRow_made w #[] 0 (Nat.le_refl _) (Nat.zero_le _) rfl, by simp⟩
set_option maxHeartbeats 400000 in
theorem CloneVs_any (v : Value) (L : List (List Int)) (w : World) (hv : Vecs w v L) (hne : L ≠ []) (hl : L.length ≤ 1000) :
    Calls Try.prog 86 #[v] w fun e w' => ∃ v', e = .returned v' ∧ OwnG 48 Vec w.heap.size w' v' L ∧ Below w.heap.size w w' := by
  have q22 : ∀ (w : World) (a : Option Addr) (n c n' c' : Nat), (binOp .eql 46 (.slice a n c) (.slice none n' c')).run Try.prog w = .ok (.bool a.isNone) w := fun w a n c n' c' => Lib.run_eql_slice_nil w _ _ a n c n' c' Try.underlying46
  have HV := Lib.hid hv
  have HL := Lib.hid hl
  have HNE := Lib.hid hne
  obtain ⟨a, c, rfl, -, -, hc⟩ := hv
  obtain ⟨b, off, rfl, -, -⟩ := hc hne
  clear hc hl hne
  go_enter Try.func86, Try.ntmps86
  go_wp2_with (at_builtin; refine wpl_appGs (t := 48) (R := Vec) (B := w.heap.size) (L := []) rfl _ _ 46 rfl Try.underlying46 info_v (Vec.keep ne_vi) (fun _ _ _ h => h.one) rfl (ownG_made w) rfl (HV.out.below ((Below.refl _ _).alloc (Nat.le_refl _) _)) HNE.out (by have := HL.out; simp; omega) (by simp) ?_; intro v' w1 hown hgrow hnil; have HO := Lib.hid hown; have HG := Lib.hid hgrow; clear hown hgrow hnil)
  go_wp2
  go_ret
  refine ⟨v', rfl, by have := HO.out; rw [List.nil_append] at this; exact this, ?_⟩
  exact ((Below.refl _ w).alloc (Nat.le_refl _) _).grown HG.out (by simp) (fun k hk => by have e : w.heap.size = k := Option.some.inj hk; omega)
set_option maxRecDepth 20000 in
set_option maxHeartbeats 1000000 in
theorem plus_any (bg q : Nat) (u1 u2 : Value) (v x : List Int) (k : Int) (w : World) (hp : PrimeAt w bg q) (hq : 0 < q) (hq2 : q < 62) (h1 : Ints w u1 v) (h2 : Ints w u2 x) (hl : v.length = x.length) (h0 : 0 < v.length) (h1000 : v.length ≤ 1000)
    (hv : ∀ a ∈ v, 0 ≤ a ∧ a < 1000) (hx : ∀ a ∈ x, 0 ≤ a ∧ a < 1000) (hk : -10000 < k ∧ k < 10000) :
    Calls Try.prog 61 #[.pointer (some ⟨bg, 0, none⟩), u1, .int .i64 k, u2] w fun e w' => ∃ v', e = .returned v' ∧ OwnI 3 w.heap.size w' v' (plusL q v k x) ∧ Below w.heap.size w w' := by
  have HP := Lib.hid hp
  have HM := Lib.hid (fun (n : Int) (w' : World) (h' : PrimeAt w' bg q) => mod_any bg q n w' h' hq hq2)
  have CL := Lib.hid (CloneV_any u1 v w h1)
  have HL := Lib.hid hl
  have HV := Lib.hid hv
  have HX := Lib.hid hx
  have HZ := Lib.hid (plusTo_zero q v k x)
  have HPL := Lib.hid (fun i => plusTo_length (q := q) (k := k) hl i)
  have HPA := Lib.hid (fun i (hi : i < (plusTo q v k x i).length) (hv : i < v.length) => plusTo_at (q := q) (k := k) hl hi hv)
  have HPS := Lib.hid (fun i (hi : i < v.length) (hw : i < x.length) => plusTo_set (q := q) (k := k) hl hi hw)
  have HPE := Lib.hid (plusTo_end (q := q) (k := k) hl)
  obtain ⟨n, hn⟩ : ∃ n, v.length = n := ⟨_, rfl⟩
  have HN := Lib.hid hn
  obtain ⟨a2, c2, rfl, -, -, hc2⟩ := h2
  have hxn : x.length = n := by rw [← hl, hn]
  obtain ⟨b2, off2, rfl, hb2, hcell2⟩ := hc2 (by intro e; rw [e] at hxn; simp at hxn; omega)
  have HXN := Lib.hid hxn
  have HC2 := Lib.hid hcell2
  rw [hxn]
  rw [hn] at h0 h1000
  obtain ⟨hk1, hk2⟩ := hk
  clear hp h1 hl hv hx hn hxn hcell2 hc2
  go_enter Try.func61, Try.ntmps61
  go_wp2_with (go_at_call 85; refine CL.out.mono ?_; rintro e w1 ⟨v1, rfl, ho1, hb1⟩; obtain ⟨g, cap, rfl, hg, hgl⟩ := ho1.block (by rw [HN.out]; exact h0); rw [HN.out] at ho1 ⊢; have HO1 := Lib.hid ho1; have HB1 := Lib.hid hb1; clear ho1 hb1)
  go_loopw [16] (fun ix wr => ∃ i : Nat, i ≤ n ∧ ix = .int .i64 i ∧ OwnI 3 w.heap.size wr (.slice (some ⟨g, 0, none⟩) n cap) (plusTo q v k x i) ∧ Below w.heap.size w wr) (fun ix _ => n - (intOf ix).toNat)
  case atStart => exact ⟨0, Nat.zero_le _, rfl, by rw [HZ.out]; exact HO1.out, HB1.out⟩
  case round =>
    obtain ⟨i, hi, rfl, ho, hb⟩ := hrel
    have HO := Lib.hid ho
    have HB := Lib.hid hb
    have hsz := hb.size
    by_cases hlt : i < n
    · have hii : (i : Int) < (n : Int) := by omega
      have hil : i < v.length := by rw [HN.out]; exact hlt
      have hcg := ho.cellN (by rw [HPL.out, HN.out]) (j := i) (by rw [HPL.out]; exact hil)
      rw [HPA.out i _ hil] at hcg
      have hxl : i < x.length := by rw [HXN.out]; exact hlt
      have hcx := (hb.cell (p := ⟨b2, off2 + i, none⟩) hb2).trans (HC2.out i hxl)
      have hva := HV.out _ (List.getElem_mem hil)
      have hxa := HX.out _ (List.getElem_mem hxl)
      have HS := Lib.hid (HPS.out i hil hxl)
      obtain ⟨y, hy⟩ : ∃ y, v[i] = y := ⟨_, rfl⟩
      obtain ⟨z, hz⟩ : ∃ z, x[i] = z := ⟨_, rfl⟩
      rw [hy] at hcg hva HS
      rw [hz] at hcx hxa HS
      have hkz : -10000000 < k * z ∧ k * z < 10000000 := by
        have h1 : k * z ≤ 10000 * 1000 := by
          have e1 : k * z ≤ 10000 * z := Int.mul_le_mul_of_nonneg_right (by omega) hxa.1
          omega
        have h2 : -10000 * z ≤ k * z := Int.mul_le_mul_of_nonneg_right (by omega) hxa.1
        have e2 : k * z ≤ 9999 * z := Int.mul_le_mul_of_nonneg_right (by omega) hxa.1
        have e3 : -9999 * z ≤ k * z := Int.mul_le_mul_of_nonneg_right (by omega) hxa.1
        omega
      have hw1 : IntKind.i64.wrap (k * z) = k * z := IntWalk.i64_in _ (by omega)
      have hw2 : IntKind.i64.wrap (y + k * z) = y + k * z := IntWalk.i64_in _ (by omega)
      have M := Lib.hid (HM.out (y + k * z) wr (HP.out.below hb))
      have HG := Lib.hid ((World.ownsRow.lt ho g rfl).2)
      have hgg := (World.ownsRow.lt ho g rfl).1
      clear ho hb hy hz hil hxl
      go_wp2_with (go_at_call 50; refine M.out.mono ?_; rintro e w2 ⟨rfl, hb2⟩; have HB2 := Lib.hid hb2; have HO2 := Lib.hid (HO.out.below hb2); have hfz := HO2.out.free i (by rw [HPL.out, HN.out]); have hc3 := (hb2.cell (p := ⟨g, i, none⟩) HG.out).trans hcg; clear hb2)
      go_roundw
      case rel =>
        refine ⟨i + 1, hlt, by go_num, ?_, (HB.out.trans (HB2.out.mono hsz)).setCell hgg _⟩
        have := HO2.out.storedN (by rw [HPL.out, HN.out]) i ((y + k * z) % (q : Int))
        unfold addM at HS
        rw [HS.out] at this
        exact this
      case measure => simp [intOf]; omega
    · obtain rfl : i = n := by omega
      have hii : ¬ (i : Int) < (i : Int) := by omega
      clear ho hb
      go_wp2
      go_ret
      refine ⟨_, rfl, ?_, HB.out⟩
      have h := HO.out
      have e := HPE.out
      rw [HN.out] at e
      rw [e] at h
      exact h
end Go.Proofs.Ytdackakjcnnofaa

/- The index of the first vector that is not 0 at a place. -/
namespace Go.Proofs.Ytdackakjcnnofaa
open Go.RowKit
attribute [local go_sem] Oper.semAt_some

theorem piv_found {c k : Nat} {L : List (List Int)} (hk : k < L.length) (h : ∀ i (hi : i < L.length), i < k → (L[i]).getD c 0 = 0) (hn : (L[k]).getD c 0 ≠ 0) : pivI c L = k := by
  unfold pivI
  rw [List.findIdx_eq hk]
  exact ⟨by simpa using hn, fun j hj => by simpa using h j (by omega) hj⟩
theorem piv_none {c k : Nat} {L : List (List Int)} (hk : L.length ≤ k) (h : ∀ i (hi : i < L.length), i < k → (L[i]).getD c 0 = 0) : pivI c L = L.length := by
  unfold pivI
  rw [List.findIdx_eq_length]
  intro x hx
  obtain ⟨i, hi, rfl⟩ := List.getElem_of_mem hx
  simpa using h i hi (by omega)
set_option maxHeartbeats 400000 in
theorem kernel1_any (bx c : Nat) (u : Value) (v : List Int) (w : World) (hx : w.cell? ⟨bx, 0, none⟩ = some (.int .i64 (c : Nat))) (hu : Ints w u v) (hc : c < v.length) :
    Calls Try.prog 88 #[u, .pointer (some ⟨bx, 0, none⟩)] w fun e w' => e = .returned (.bool (v.getD c 0 != 0)) ∧ Below w.heap.size w w' := by
  obtain ⟨a, cp, rfl, -, -, hcl⟩ := hu
  obtain ⟨b, off, rfl, -, hcell⟩ := hcl (ne_nil_of_lt hc)
  have h1 := hcell c hc
  have e : v.getD c 0 = v[c] := by rw [List.getD_eq_getElem?_getD, List.getElem?_eq_getElem hc]; rfl
  rw [e]
  obtain ⟨x, hx'⟩ : ∃ x, v[c] = x := ⟨_, rfl⟩
  rw [hx'] at h1 ⊢
  have hci : (c : Int) < (v.length : Int) := by omega
  clear hcell hcl e hx'
  go_enter Try.func88, Try.ntmps88
  go_wp2
  go_ret
  exact ⟨rfl, Below.refl _ _⟩
set_option maxRecDepth 20000 in
set_option maxHeartbeats 1000000 in
theorem IndexV_any (bx c : Nat) (u : Value) (L : List (List Int)) (w : World) (hb : bx < w.heap.size) (hx : w.cell? ⟨bx, 0, none⟩ = some (.int .i64 (c : Nat))) (hu : Vecs w u L) (hc : ∀ v ∈ L, c < v.length) (hl : L.length ≤ 1000) :
    Calls Try.prog 87 #[u, .func (.func 88) #[] #[.pointer (some ⟨bx, 0, none⟩)]] w fun e w' => e = .returned (.int .i64 (if pivI c L < L.length then (pivI c L : Int) else -1)) ∧ Below w.heap.size w w' := by
  have HU := Lib.hid hu
  have HX := Lib.hid (fun (w' : World) (h : Below w.heap.size w w') => (h.cell (p := ⟨bx, 0, none⟩) hb).trans hx)
  have HC := Lib.hid hc
  have HK := Lib.hid (fun (w' : World) (h : Below w.heap.size w w') (u : Value) (v : List Int) (hu : Ints w' u v) (hc : c < v.length) => kernel1_any bx c u v w' (HX.out w' h) hu hc)
  have HF := Lib.hid (fun k (hk : k < L.length) h hn => piv_found (c := c) (k := k) (L := L) hk h hn)
  have HE := Lib.hid (fun k (hk : L.length ≤ k) h => piv_none (c := c) (k := k) (L := L) hk h)
  obtain ⟨a, cp, rfl⟩ := hu.form
  clear hu hc hx
  obtain ⟨n, hn⟩ : ∃ n, L.length = n := ⟨_, rfl⟩
  have HN := Lib.hid hn
  rw [hn] at HU hl ⊢
  clear hn
  obtain ⟨R, hR⟩ : ∃ R, (if pivI c L < n then (pivI c L : Int) else -1) = R := ⟨_, rfl⟩
  have HR := Lib.hid hR
  rw [hR]
  clear hR
  go_enter Try.func87, Try.ntmps87
  go_wp2
  go_loopw [8] (fun ix wr => ∃ k : Nat, k ≤ n ∧ ix = .int .i64 k ∧ (∀ i (hi : i < L.length), i < k → (L[i]).getD c 0 = 0) ∧ Below w.heap.size w wr) (fun ix _ => n - (intOf ix).toNat)
  case atStart => exact ⟨0, Nat.zero_le _, rfl, fun i _ h => absurd h (Nat.not_lt_zero _), Below.refl _ _⟩
  case round =>
    obtain ⟨k, hk, rfl, hno, hbr⟩ := hrel
    have HNO := Lib.hid hno
    have HB := Lib.hid hbr
    have hsz := hbr.size
    clear hno hbr
    by_cases hlt : k < n
    · have hki : (k : Int) < (n : Int) := by omega
      have hkl : k < L.length := by rw [HN.out]; exact hlt
      obtain ⟨b, off, c2, uv, e1, hbl, -, hcell, huv⟩ := (HU.out.below HB.out).at k hkl
      obtain rfl : a = some ⟨b, off, none⟩ := (Value.slice.inj e1).1
      have C := Lib.hid (HK.out wr HB.out uv _ huv.ints (HC.out _ (List.getElem_mem hkl)))
      have HFK := Lib.hid (HF.out k hkl HNO.out)
      obtain ⟨av, cv, rfl⟩ := huv.form
      obtain ⟨v, hv⟩ : ∃ v, L[k] = v := ⟨_, rfl⟩
      have HV := Lib.hid hv
      rw [hv] at C hcell HFK
      clear huv e1 hv
      by_cases hz : v.getD c 0 = 0
      · have HNX := Lib.hid (show ∀ i (hi : i < L.length), i < k + 1 → (L[i]).getD c 0 = 0 from fun i hi h => by
          by_cases e : i = k
          · subst e; rw [HV.out]; exact hz
          · exact HNO.out i hi (by omega))
        have hzb : (v.getD c 0 != 0) = false := by simpa using hz
        rw [hzb] at C
        clear hz hzb HV
        go_wp2_with (go_at_call 88; refine C.out.mono ?_; rintro e w2 ⟨rfl, hb2⟩; have HB2 := Lib.hid hb2; clear hb2)
        go_roundw
        case rel => exact ⟨k + 1, hlt, by go_num, HNX.out, HB.out.trans (HB2.out.mono hsz)⟩
        case measure => simp [intOf]; omega
      · have HP := Lib.hid (HFK.out hz)
        have hzb : (v.getD c 0 != 0) = true := by simpa using hz
        rw [hzb] at C
        clear hz hzb HV
        go_wp2_with (go_at_call 88; refine C.out.mono ?_; rintro e w2 ⟨rfl, hb2⟩; have HB2 := Lib.hid hb2; clear hb2)
        go_ret
        exact ⟨ret_int (by rw [← HR.out, HP.out, if_pos hlt]), HB.out.trans (HB2.out.mono hsz)⟩
    · obtain rfl : k = n := by omega
      have hki : ¬ (k : Int) < (k : Int) := by omega
      have HP := Lib.hid (HE.out k (by rw [HN.out]; exact Nat.le_refl _) HNO.out)
      rw [HN.out] at HP
      go_wp2
      go_ret
      exact ⟨ret_int (by rw [← HR.out, HP.out, if_neg (by omega)]), HB.out⟩
end Go.Proofs.Ytdackakjcnnofaa

/- kernel: what is held while it goes on; what its steps keep. -/
namespace Go.Proofs.Ytdackakjcnnofaa
open Go.RowKit

/-- Vectors of m numbers modulo q. -/
def VL (q m : Nat) (L : List (List Int)) : Prop := ∀ v ∈ L, v.length = m ∧ ∀ a ∈ v, 0 ≤ a ∧ a < (q : Int)
section
variable {q m : Nat} {L B I : List (List Int)} {v : List Int}
theorem VL.set (h : VL q m L) (hv : v.length = m ∧ ∀ a ∈ v, 0 ≤ a ∧ a < (q : Int)) (i : Nat) : VL q m (L.set i v) := fun x hx => by
  rcases List.mem_or_eq_of_mem_set hx with h1 | rfl
  · exact h x h1
  · exact hv
theorem VL.getD (h : VL q m L) {i : Nat} (hi : i < L.length) : (L.getD i []).length = m ∧ ∀ a ∈ L.getD i [], 0 ≤ a ∧ a < (q : Int) := by
  rw [List.getD_eq_getElem?_getD, List.getElem?_eq_getElem hi]
  exact h _ (List.getElem_mem hi)
theorem plusL_vl (hq : 0 < q) {x : List Int} {k : Int} (hl : v.length = x.length) : (plusL q v k x).length = v.length ∧ ∀ a ∈ plusL q v k x, 0 ≤ a ∧ a < (q : Int) := by
  refine ⟨plusL_length hl, fun a ha => ?_⟩
  unfold plusL at ha
  rw [List.mem_iff_getElem] at ha
  obtain ⟨i, hi, rfl⟩ := ha
  rw [List.getElem_zipWith]
  exact ⟨Int.emod_nonneg _ (by omega), Int.emod_lt_of_pos _ (by omega)⟩
theorem swapI_length (L : List (List Int)) (i j : Nat) : (swapI L i j).length = L.length := by simp [swapI]
theorem VL.swap (h : VL q m L) {i j : Nat} (hi : i < L.length) (hj : j < L.length) : VL q m (swapI L i j) := (h.set (h.getD hj) i).set (h.getD hi) j
theorem elim1_ok (hq : 0 < q) {c a by' i : Nat} (hB : VL q m B) (hI : VL q m I) (hl : I.length = B.length) (ha : a < B.length) (hi : i < B.length) :
    (elim1 q c a by' (B, I) i).1.length = B.length ∧ (elim1 q c a by' (B, I) i).2.length = I.length ∧ VL q m (elim1 q c a by' (B, I) i).1 ∧ VL q m (elim1 q c a by' (B, I) i).2 := by
  have b1 := hB.getD hi
  have b2 := hB.getD ha
  have i1 := hI.getD (i := i) (by omega)
  have i2 := hI.getD (i := a) (by omega)
  refine ⟨by simp [elim1], by simp [elim1], hB.set ?_ i, hI.set ?_ i⟩
  · have h := plusL_vl (q := q) hq (k := -(entI I i c) * (by' : Int)) (v := B.getD i []) (x := B.getD a []) (by rw [b1.1, b2.1])
    exact ⟨h.1.trans b1.1, h.2⟩
  · have h := plusL_vl (q := q) hq (k := -(entI I i c) * (by' : Int)) (v := I.getD i []) (x := I.getD a []) (by rw [i1.1, i2.1])
    exact ⟨h.1.trans i1.1, h.2⟩
theorem elimN_ok (hq : 0 < q) {c a by' : Nat} (hB : VL q m B) (hI : VL q m I) (hl : I.length = B.length) (ha : a < B.length) : ∀ t, a + t < B.length →
    (elimN q c a by' (B, I) t).1.length = B.length ∧ (elimN q c a by' (B, I) t).2.length = B.length ∧ VL q m (elimN q c a by' (B, I) t).1 ∧ VL q m (elimN q c a by' (B, I) t).2
  | 0, _ => ⟨rfl, hl, hB, hI⟩
  | t + 1, ht => by
    obtain ⟨h1, h2, h3, h4⟩ := elimN_ok hq (c := c) (by' := by') hB hI hl ha t (by omega)
    have := elim1_ok hq (c := c) (a := a) (by' := by') (i := a + 1 + t) h3 h4 (by omega) (by omega) (by omega)
    exact ⟨this.1.trans h1, this.2.1.trans h2, this.2.2.1, this.2.2.2⟩
theorem kerTo_ok (hq : 0 < q) {n : Nat} (hB : VL q m B) (hI : VL q m I) (hb : B.length = n) (hi : I.length = n) : ∀ c,
    (kerTo q B I c).1.1.length = n ∧ (kerTo q B I c).1.2.length = n ∧ (kerTo q B I c).2 ≤ n ∧ VL q m (kerTo q B I c).1.1 ∧ VL q m (kerTo q B I c).1.2
  | 0 => ⟨hb, hi, Nat.zero_le _, hB, hI⟩
  | c + 1 => by
    obtain ⟨h1, h2, h3, h4, h5⟩ := kerTo_ok hq hB hI hb hi c
    rw [kerTo]
    unfold kerStep
    simp only
    split
    · rename_i hk
      rw [List.length_drop] at hk
      have s1 := h4.swap (i := (kerTo q B I c).2) (j := (kerTo q B I c).2 + pivI c ((kerTo q B I c).1.2.drop (kerTo q B I c).2)) (by omega) (by omega)
      have s2 := h5.swap (i := (kerTo q B I c).2) (j := (kerTo q B I c).2 + pivI c ((kerTo q B I c).1.2.drop (kerTo q B I c).2)) (by omega) (by omega)
      have := elimN_ok hq (c := c) (a := (kerTo q B I c).2) (by' := overN q (entI (swapI (kerTo q B I c).1.2 (kerTo q B I c).2 ((kerTo q B I c).2 + pivI c ((kerTo q B I c).1.2.drop (kerTo q B I c).2))) (kerTo q B I c).2 c).toNat) s1 s2 (by rw [swapI_length, swapI_length, h1, h2]) (by rw [swapI_length]; omega)
        ((swapI (kerTo q B I c).1.1 (kerTo q B I c).2 ((kerTo q B I c).2 + pivI c ((kerTo q B I c).1.2.drop (kerTo q B I c).2))).length - ((kerTo q B I c).2 + 1)) (by rw [swapI_length]; omega)
      rw [swapI_length] at this
      rw [swapI_length]
      exact ⟨this.1.trans h1, this.2.1.trans h1, by omega, this.2.2.1, this.2.2.2⟩
    · exact ⟨h1, h2, h3, h4, h5⟩
theorem ker_idle {n c : Nat} (h : (kerTo q B I c).2 = n) (hi : (kerTo q B I c).1.2.length = n) : ∀ t, kerTo q B I (c + t) = kerTo q B I c
  | 0 => rfl
  | t + 1 => by
    show kerStep q (c + t) (kerTo q B I (c + t)) = _
    rw [ker_idle h hi t]
    unfold kerStep
    simp only
    rw [if_neg (by rw [List.length_drop]; omega)]
end
/-- What is held while kernel goes on. -/
structure KerS (n g1 c1 g2 c2 : Nat) (w wr : World) (B I : List (List Int)) : Prop where
  b : OwnG 48 Vec w.heap.size wr (.slice (some ⟨g1, 0, none⟩) n c1) B
  i : OwnG 48 Vec w.heap.size wr (.slice (some ⟨g2, 0, none⟩) n c2) I
  ne : g1 ≠ g2
  low : Below w.heap.size w wr
section
variable {n g1 c1 g2 c2 : Nat} {w wr w' : World} {B I : List (List Int)}
theorem vec_keep0 : KeepR (α := List Int) 1000000 Vec := Vec.keep (by decide)
theorem KerS.below (h : KerS n g1 c1 g2 c2 w wr B I) (hb : Below wr.heap.size wr w') : KerS n g1 c1 g2 c2 w w' B I :=
  ⟨h.b.below hb vec_keep0, h.i.below hb vec_keep0, h.ne, h.low.trans (hb.mono h.low.size)⟩
theorem ownG_far {α : Type} {t : TypeId} {R : World → Value → α → Prop} {H g j : Nat} {v u : Value} {L : List α} (h : OwnG t R H wr v L) (hg : typeAt wr g = some t) (hne : v.ownBlock ≠ some g) (hR : KeepR t R) : OwnG t R H (wr.setCell ⟨g, j, none⟩ u) v L := by
  obtain ⟨vs, ho, hr⟩ := h
  exact ⟨vs, own_sm (S := fun k => k ≠ g) ho (Sm.put g j u) (fun k hk e => hne (by rw [hk, e])), fun i u' x h1 h2 => hR _ _ _ _ (KX.put hg j u) (hr i u' x h1 h2)⟩
theorem KerS.setB (h : KerS n g1 c1 g2 c2 w wr B I) {u : Value} {x : List Int} (hu : Vec wr u x) (j : Nat) : KerS n g1 c1 g2 c2 w (wr.setCell ⟨g1, j, none⟩ u) (B.set j x) I :=
  ⟨h.b.stored j hu (Vec.keep ne_vi), ownG_far h.i (h.b.own rfl).2.2 (fun e => h.ne (Option.some.inj e).symm) (Vec.keep ne_vi), h.ne, h.low.setCell (p := ⟨g1, j, none⟩) (h.b.own rfl).1 u⟩
theorem KerS.setI (h : KerS n g1 c1 g2 c2 w wr B I) {u : Value} {x : List Int} (hu : Vec wr u x) (j : Nat) : KerS n g1 c1 g2 c2 w (wr.setCell ⟨g2, j, none⟩ u) B (I.set j x) :=
  ⟨ownG_far h.b (h.i.own rfl).2.2 (fun e => h.ne (Option.some.inj e)) (Vec.keep ne_vi), h.i.stored j hu (Vec.keep ne_vi), h.ne, h.low.setCell (p := ⟨g2, j, none⟩) (h.i.own rfl).1 u⟩
/-- A vector in place j, by value. -/
theorem OwnG.vec {H g cp : Nat} (h : OwnG 48 Vec H wr (.slice (some ⟨g, 0, none⟩) n cp) B) {j : Nat} (hj : j < B.length) : ∃ u, wr.cell? ⟨g, j, none⟩ = some u ∧ Vec wr u (B.getD j []) := by
  obtain ⟨g', cap', u, e, _, _, _, hc, hu⟩ := h.at j hj
  obtain ⟨e1, -, -⟩ := Value.slice.inj e
  obtain rfl : g = g' := by simpa using e1
  refine ⟨u, hc, ?_⟩
  rw [List.getD_eq_getElem?_getD, List.getElem?_eq_getElem hj]
  exact hu
theorem OwnG.lenN {α : Type} {t : TypeId} {R : World → Value → α → Prop} {H : Nat} {a : Option Addr} {cp : Nat} {L : List α} (h : OwnG t R H wr (.slice a n cp) L) : n = L.length := by
  obtain ⟨a', c', e⟩ := h.form
  exact (Value.slice.inj e).2.1
theorem OwnG.cap {α : Type} {t : TypeId} {R : World → Value → α → Prop} {H : Nat} {g cp : Nat} {L : List α} (h : OwnG t R H wr (.slice (some ⟨g, 0, none⟩) n cp) L) : n ≤ cp := by
  have hn := h.lenN
  obtain ⟨vs, ho, _⟩ := h
  rcases ho.2 with ⟨h', _⟩ | ⟨g', cap', cur, h', _, _, hl, _⟩
  · simp at h'
  · obtain ⟨_, _, rfl⟩ := Value.slice.inj h'; omega
theorem KeepX.vec_put {u u' : Value} {x : List Int} {g j : Nat} (h : Vec wr u x) (hg : typeAt wr g = some 48) : Vec (wr.setCell ⟨g, j, none⟩ u') u x := Vec.keep ne_vi _ _ _ _ (KX.put hg j u') h
end
end Go.Proofs.Ytdackakjcnnofaa

/- image: a matrix times a vector. -/
namespace Go.Proofs.Ytdackakjcnnofaa
open Go.RowKit
attribute [local go_sem] Oper.semAt_some

theorem dotI_bound {r v : List Int} (hr : ∀ x ∈ r, 0 ≤ x ∧ x ≤ 1000) (hv : ∀ x ∈ v, 0 ≤ x ∧ x ≤ 1000) (h : r.length ≤ 100) (j : Nat) : 0 ≤ dotI (r.take j) (v.take j) ∧ dotI (r.take j) (v.take j) ≤ 100000000 := by
  have h1 := dotI_le (a := 1000) (b := 1000) (by omega) (by omega) (r.take j) (v.take j) (fun x hx => hr x (List.mem_of_mem_take hx)) (fun x hx => hv x (List.mem_of_mem_take hx))
  have h2 : (r.take j).length ≤ 100 := by rw [List.length_take]; omega
  omega
set_option maxRecDepth 20000 in
set_option maxHeartbeats 2000000 in
theorem image_any (bg q : Nat) (vm u : Value) (m : List (List Int)) (v : List Int) (w : World) (hp : PrimeAt w bg q) (hq : 0 < q) (hq2 : q < 62) (hm : Args w vm m) (hu : Ints w u v)
    (hrow : ∀ r ∈ m, r.length = v.length) (hb : ∀ r ∈ m, ∀ x ∈ r, 0 ≤ x ∧ x ≤ 1000) (hv : ∀ x ∈ v, 0 ≤ x ∧ x ≤ 1000) (hml : m.length ≤ 100) (hvl : v.length ≤ 100) :
    Calls Try.prog 62 #[.pointer (some ⟨bg, 0, none⟩), vm, u] w fun e w' => ∃ v', e = .returned v' ∧ OwnI 3 w.heap.size w' v' (imageL q m v) ∧ Below w.heap.size w w' := by
  have HP := Lib.hid hp
  have HM := Lib.hid (fun (n : Int) (w' : World) (h' : PrimeAt w' bg q) => mod_any bg q n w' h' hq hq2)
  have HA := Lib.hid hm
  have HU := Lib.hid hu
  have HR := Lib.hid hrow
  have HBD := Lib.hid hb
  have HV := Lib.hid hv
  obtain ⟨n, hn⟩ : ∃ n, v.length = n := ⟨_, rfl⟩
  have HN := Lib.hid hn
  obtain ⟨mn, hmn⟩ : ∃ n, m.length = n := ⟨_, rfl⟩
  have HMN := Lib.hid hmn
  obtain ⟨am, cm, rfl⟩ := hm.form
  obtain ⟨au, cu, rfl, -, -, -⟩ := hu
  rw [hn] at HU hvl HR ⊢
  rw [hmn] at HA hml ⊢
  have HTK := Lib.hid (fun i (h : i < m.length) => imageL_take q m v i h)
  have HTL := Lib.hid (imageL_length q m v)
  clear hp hq hrow hb hv hn hmn hm
  go_enter Try.func62, Try.ntmps62
  go_wp2
  go_loopw [7, 15] (fun vo ix wr => ∃ i : Nat, i ≤ mn ∧ ix = .int .i64 i ∧ OwnI 3 w.heap.size wr vo ((imageL q m v).take i) ∧ Below w.heap.size w wr) (fun _ ix _ => mn - (intOf ix).toNat)
  case atStart => exact ⟨0, Nat.zero_le _, rfl, OwnI.nil _ _ _, Below.refl _ _⟩
  case round =>
    obtain ⟨i, hi, rfl, ho, hbr⟩ := hrel
    have HO := Lib.hid ho
    have HB := Lib.hid hbr
    have hsz := hbr.size
    clear ho hbr
    by_cases hlt : i < mn
    · have hii : (i : Int) < (mn : Int) := by omega
      have him : i < m.length := by rw [HMN.out]; exact hlt
      obtain ⟨bm, om, cm', ur, em, hbm, hcm, hur⟩ := (HA.out.below HB.out).at i him
      obtain rfl : am = some ⟨bm, om, none⟩ := (Value.slice.inj em).1
      have hrl := HR.out _ (List.getElem_mem him)
      have hrb := HBD.out _ (List.getElem_mem him)
      have HS := Lib.hid (HTK.out i him)
      obtain ⟨r, hr⟩ : ∃ r, m[i] = r := ⟨_, rfl⟩
      rw [hr] at hur hrl hrb HS
      have HRL := Lib.hid hrl
      have HRB := Lib.hid hrb
      have HDB := Lib.hid (fun j => dotI_bound (r := r) (v := v) HRB.out HV.out (by rw [HRL.out]; exact hvl) j)
      have HDT := Lib.hid (fun j (h1 : j < r.length) (h2 : j < v.length) => dotI_take r v j h1 h2)
      have HUR := Lib.hid hur
      obtain ⟨ar, cr, rfl, -, -, -⟩ := hur
      rw [hrl] at HUR hcm
      have HL5 := Lib.hid (show ((imageL q m v).take i).length < 1000000 by rw [List.length_take, HTL.out, HMN.out]; omega)
      clear hr hrl hrb him em
      obtain ⟨wo, hwo⟩ : ∃ x, x = wr := ⟨_, rfl⟩
      rw [← hwo] at HO HB HUR hcm hsz hbm ⊢
      clear hwo
      go_wp2_with fail
      go_loopw [10, 21] (fun s jx wq => ∃ j : Nat, j ≤ n ∧ jx = .int .i64 j ∧ s = .int .i64 (dotI (r.take j) (v.take j)) ∧ Below wo.heap.size wo wq) (fun _ jx _ => n - (intOf jx).toNat)
      case atStart => exact ⟨0, Nat.zero_le _, rfl, by rw [List.take_zero, dotI_nil], Below.refl _ _⟩
      case round =>
        obtain ⟨j, hj, rfl, rfl, hb2⟩ := hrel
        have HB2 := Lib.hid hb2
        have hdb := HDB.out j
        by_cases hjl : j < n
        · have hji : (j : Int) < (n : Int) := by omega
          have hjr : j < r.length := by rw [HRL.out]; exact hjl
          have hjv : j < v.length := by rw [HN.out]; exact hjl
          obtain ⟨a1, c1, e1, -, -, hc1⟩ := HUR.out
          obtain ⟨b1, o1, e1', hb1, hcell1⟩ := hc1 (ne_nil_of_lt hjr)
          obtain rfl : ar = some ⟨b1, o1, none⟩ := ((Value.slice.inj e1).1).trans e1'
          have hcr := (hb2.cell (p := ⟨b1, o1 + j, none⟩) hb1).trans (hcell1 j hjr)
          obtain ⟨a3, c3, e3, -, -, hc3⟩ := HU.out
          obtain ⟨b3, o3, e3', hb3, hcell3⟩ := hc3 (ne_nil_of_lt hjv)
          obtain rfl : au = some ⟨b3, o3, none⟩ := ((Value.slice.inj e3).1).trans e3'
          have hcv := ((HB.out.trans (hb2.mono hsz)).cell (p := ⟨b3, o3 + j, none⟩) hb3).trans (hcell3 j hjv)
          have hd2 := HDB.out (j + 1)
          have hrx := HRB.out _ (List.getElem_mem hjr)
          have hvx := HV.out _ (List.getElem_mem hjv)
          have hst := HDT.out j hjr hjv
          rw [hst] at hd2
          have HST := Lib.hid hst
          obtain ⟨x, hx⟩ : ∃ x, r[j] = x := ⟨_, rfl⟩
          obtain ⟨y, hy⟩ : ∃ y, v[j] = y := ⟨_, rfl⟩
          rw [hx] at hcr hd2 HST hrx
          rw [hy] at hcv hd2 HST hvx
          obtain ⟨s, hs⟩ : ∃ s, dotI (r.take j) (v.take j) = s := ⟨_, rfl⟩
          rw [hs] at hd2 HST hdb ⊢
          have hw1 : IntKind.i64.wrap (x * y) = x * y := IntWalk.i64_in _ (by omega)
          have hw2 : IntKind.i64.wrap (s + x * y) = s + x * y := IntWalk.i64_in _ (by omega)
          clear hx hy hs hst hcell1 hcell3 hc1 hc3 e1 e3 hjr hjv hb2
          go_wp2
          go_roundw
          case rel => exact ⟨j + 1, hjl, by go_num, by rw [HST.out], HB2.out⟩
          case measure => simp [intOf]; omega
        · obtain rfl : j = n := by omega
          have hji : ¬ (j : Int) < (j : Int) := by omega
          have HE := Lib.hid (show dotI (r.take j) (v.take j) = dotI r v by rw [List.take_of_length_le (by rw [HRL.out]; exact Nat.le_refl _), List.take_of_length_le (by rw [HN.out]; exact Nat.le_refl _)])
          rw [HE.out]
          have M := Lib.hid (HM.out (dotI r v) wr (HP.out.below (HB.out.trans (hb2.mono hsz))))
          have HO2 := Lib.hid (HO.out.below hb2)
          have HB3 := Lib.hid (HB.out.trans (hb2.mono hsz))
          have hs3 := HB3.out.size
          clear hb2
          go_wp2_with (first
            | (go_at_call 50; refine M.out.mono ?_; rintro e w3 ⟨rfl, hb3⟩; have HO3 := Lib.hid (HO2.out.below hb3); have HB4 := Lib.hid (HB3.out.trans (hb3.mono hs3)); have hs4 := HB4.out.size; clear hb3)
            | (at_builtin; refine wpList_app1 rfl _ _ 48 rfl 3 Try.underlying48 info3 w.heap.size _ ((imageL q m v).take i) (dotI r v % (q : Int)) rfl (HO3.out.alloc _) ⟨_, 0, none⟩ 1 rfl (cell_new1 _ _ _) (by have := HL5.out; omega) (by simp; omega) ?_; intro v5 w5 ho5 hg5 hb5; have HO5 := Lib.hid ho5; have HB5 := Lib.hid ((HB4.out.alloc hs4 (.cells #[.int .i64 (dotI r v % (q : Int))] 3)).grown hg5 (by simp; omega) (fun k hk => (World.ownsRow.lt HO3.out k hk).1)); clear ho5 hg5 hb5))
          go_roundw
          case rel => exact ⟨i + 1, hlt, by go_num, by rw [HS.out]; exact HO5.out, HB5.out⟩
          case measure => simp [intOf]; omega
    · obtain rfl : i = mn := by omega
      have hii : ¬ (i : Int) < (i : Int) := by omega
      go_wp2
      go_ret
      refine ⟨_, rfl, ?_, HB.out⟩
      have h := HO.out
      rw [List.take_of_length_le (by rw [HTL.out, HMN.out]; exact Nat.le_refl _)] at h
      exact h
end Go.Proofs.Ytdackakjcnnofaa
