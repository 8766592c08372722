/- What the tables say of a group, for the laws. -/
import Derived.Test.YtdackakjcnnofaaFq
import Derived.Test.YtdackakjcnnofaaB5
namespace Go.Proofs.Ytdackakjcnnofaa
open Go.RowKit
theorem Grp.fgN {E : List (List Nat)} {d : Nat} (h : Grp d E) (h1 : 0 < d) (hd : d ≤ 5) (h24 : E.length ≤ 24) : FG E d := by
  have hp := h.prime_spec hd h24
  obtain ⟨x, hx, hok, ht, e1, e2, e3, e4, -⟩ := h.tab h1 hd h24
  have hs := shp_all x hx
  have hn := h.pos
  have hcl : (classesN E).length = (repsN E E.length).length := by simp [classesN]
  have hsl : x.1.2.2.1.length = (classesN E).length := by rw [← e3, szE_length, hcl]
  unfold shpOk at hs
  simp only [Bool.and_eq_true, beq_iff_eq, decide_eq_true_eq, List.all_eq_true] at hs
  refine ⟨by omega, hp.2.1, h24, by omega, by omega, by rw [backC_length, hcl], fun b hb => by rw [hcl]; exact backC_lt h b hb, fun l hl => by have := (classes_len hl).1; omega, ?_, hok, by rw [ht]; omega, fun r hr => ?_⟩
  · rw [e1, e2]
    exact hs.1.1.2
  · rw [ht] at hr
    rw [e1]
    have h2 := hs.1.1.1.1.1.1.1.1.1.1.2 r hr
    refine funB_iff.2 ⟨by rw [h2.1.1.1, hsl], fun y hy => ?_⟩
    have := h2.1.1.2 y hy
    exact this
theorem Grp.m6 {E : List (List Nat)} {d : Nat} (h : Grp d E) (h1 : 0 < d) (hd : d ≤ 5) (h24 : E.length ≤ 24) : (repsN E E.length).length ≤ 6 := by
  obtain ⟨x, hx, hok, ht, e1, e2, e3, e4, -⟩ := h.tab h1 hd h24
  have hs := shp_all x hx
  have hsl : x.1.2.2.1.length = (repsN E E.length).length := by rw [← e3, szE_length]
  unfold shpOk at hs
  simp only [Bool.and_eq_true, beq_iff_eq, decide_eq_true_eq, List.all_eq_true] at hs
  omega
end Go.Proofs.Ytdackakjcnnofaa
