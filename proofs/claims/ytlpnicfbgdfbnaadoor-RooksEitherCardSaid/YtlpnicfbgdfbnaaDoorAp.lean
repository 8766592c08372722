/- Append of one int: where the row lies behind it; the same in a fence. -/
import Derived.Test.YtlpnicfbgdfbnaaDoorPm
import Derived.OwnWalkIn
namespace Go.Proofs.YtlpnicfbgdfbnaaDoor
open Go.RowKit

theorem run_app1_at {P : Program} {t ty e : TypeId} (h1 : P.underlying t = some (.slice e)) (hi : IsInt P e) {B : Nat} {w : World} {v : Value} {xs : List Int} {y : Int} (hown : OwnI e B w v xs)
    {ad : Addr} {c : Nat} (hc : w.cell? ad = some (.int .i64 y)) (hlen : xs.length < 17592186044416) (hB : B ≤ w.heap.size) :
    ∃ v' w', (Builtin.append_ #[t, t] ty #[v, .slice (some ad) 1 c]).run P w = .ok v' w' ∧ OwnI e B w' v' (xs ++ [y]) ∧ w.grownBy w' v.ownBlock ∧ Below B w w' ∧
      (v'.ownBlock = v.ownBlock ∨ v'.ownBlock = some w.heap.size) := by
  obtain ⟨v', w', hrun, r1, r2, r3⟩ := run_app1 (ty := ty) h1 hi hown hc hlen hB
  refine ⟨v', w', hrun, r1, r2, r3, ?_⟩
  obtain ⟨i, hi1, hz0, hz1, hz2⟩ := info_parts hi
  have hnews : ∀ j u, [Value.int .i64 y][j]? = some u → w.cell? (ad.add j) = some u := by
    intro j u hj
    match j, hj with
    | 0, hj => simp at hj; subst hj; simpa [Addr.add] using hc
  rcases hown.2 with ⟨rfl, hn⟩ | ⟨g, cap, cur, rfl, hbg, hg, hnc, hcm, hcs, htake⟩
  · have hr := run_append_nil (P := P) w t ty e i (.int .i64 0) h1 hi1 hz0 ad 1 c [.int .i64 y] (by rw [hz1]; rfl) hnews (by omega) (by omega) (by rw [hz2]; omega)
    rw [hrun] at hr
    cases hr
    exact .inr rfl
  · by_cases hroom : xs.length + 1 ≤ cap
    · have hr := run_append_room (P := P) w t ty e i h1 hi1 g xs.length cap cur hg ad 1 c [.int .i64 y] (by rw [hz1]; rfl) hnews (by intro u hu; simp at hu; subst hu; rfl) hroom (by rw [hcs, hz1]; simp; omega)
      rw [hrun] at hr
      cases hr
      exact .inl rfl
    · have hr := run_append_grow (P := P) w t ty e i (.int .i64 0) h1 hi1 hz0 ⟨g, 0, none⟩ xs.length cap (xs.map (Value.int .i64)) (by rw [hz1]; simp) (World.ownsRow.cells hown (g := g) rfl) ad 1 c [.int .i64 y] (by rw [hz1]; rfl) hnews (by omega) (by omega) (growslice_fits (by omega) (by rw [hz2]; omega))
      rw [hrun] at hr
      cases hr
      exact .inr rfl

/-- In a fence, in a region of one order. -/
theorem wpListIn_app1 {F : Fence} {n : Nat} {P : Program} {ops : Array Oper} {rest : List Oper} {o : Oper} {a : Act} {w : World} {Q : Exit → Act → World → Prop}
    (hg : o.guard = none) (s x : Operand) (t : TypeId) (hop : o.op = Op.call { callee := Callee.builtin Builtin.append, args := #[s, x], argTypes := #[t, t] })
    (e : TypeId) (h1 : P.underlying t = some (.slice e)) (hi : IsInt P e) (B : Nat) (v : Value) (xs : List Int) (y : Int) (hs : a.eval s = v) (hown : OwnI e B w v xs)
    (ad : Addr) (c : Nat) (hx : a.eval x = .slice (some ad) 1 c) (hc : w.cell? ad = some (.int .i64 y)) (hlen : xs.length < 17592186044416) (hB : B ≤ w.heap.size)
    (hK : ∀ v' w', OwnI e B w' v' (xs ++ [y]) → w.grownBy w' v.ownBlock → Below B w w' → (v'.ownBlock = v.ownBlock ∨ v'.ownBlock = some w.heap.size) → wpListIn F n P ops Q rest (a.put o.dst v') w') :
    wpListIn F n P ops Q (o :: rest) a w := by
  refine wpListIn_plain hg fun K hK' => ?_
  obtain ⟨v', w', hrun, r1, r2, r3, r4⟩ := run_app1_at (ty := o.type) h1 hi hown hc hlen hB
  unfold Oper.wpIn
  refine ⟨?_, ?_⟩
  · simp [Oper.about, hop, resolve, Target.leads, Sem.run_pure]
  · rw [Oper.semAt_plain F _ _ (by rw [hop]; intro c hc'; cases hc')]
    simp [execOp, hop, resolve, invoke, builtin, hs, hx, Result.andThen]
    rw [hrun]
    exact hK' _ _ (hK v' w' r1 r2 r3 r4)

/-- A row of the call's own without its last cells. -/
theorem own_cut {e : TypeId} {B : Nat} {w : World} {g n cap : Nat} {xs : List Int} (h : OwnI e B w (.slice (some ⟨g, 0, none⟩) n cap) xs) (k : Nat) (hk : k ≤ xs.length) : OwnI e B w (.slice (some ⟨g, 0, none⟩) k cap) (xs.take k) := by
  obtain ⟨h1, h2⟩ := h
  rcases h2 with ⟨h2, _⟩ | ⟨g', cap', cur, h2, hg, hh, hn, hcap, hsz, hx⟩
  · cases h2
  · obtain ⟨e1, rfl, rfl⟩ := Value.slice.inj h2
    obtain rfl : g = g' := by simpa using e1
    have hl : (xs.take k).length = k := by simp; omega
    refine ⟨by simp, .inr ⟨g, cap, cur, by rw [hl], hg, hh, by rw [hl]; omega, hcap, hsz, ?_⟩⟩
    rw [hl, Nat.mul_one, List.map_take, ← hx, List.take_take]
    congr 1
    omega
end Go.Proofs.YtlpnicfbgdfbnaaDoor
