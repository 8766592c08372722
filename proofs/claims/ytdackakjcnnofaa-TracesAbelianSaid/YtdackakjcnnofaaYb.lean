/- TracesAbelian answers true. -/
import Derived.Test.YtdackakjcnnofaaYa
namespace Go.Proofs.Ytdackakjcnnofaa
open Go.RowKit

theorem tracesAbelian_true (v : Value) (L : List (List Int)) (w : World) (h : Args w v L) : Calls Try.prog 3 #[v] w fun e w' => e = .returned (.bool true) ∧ Below w.heap.size w w' := by
  rcases three L with hq | ⟨hq, ho⟩ | ⟨hq, E, hg⟩
  · refine abel_err v L w h 2 (.inl rfl) (fun u w' ha => ?_) (fun u w' ha => ?_) (fun u w' ha => ?_)
    · exact (Table_no ha (by rw [genQ_tabA]; exact hq)).mono fun e w2 ⟨he, hb⟩ => ⟨_, _, _, he, hb⟩
    · exact (PElements_no ha (by rw [genQ_tabA]; exact hq)).mono fun e w2 ⟨he, hb⟩ => ⟨_, _, _, he, hb⟩
    · exact (Classes_no ha (by rw [genQ_tabA]; exact hq)).mono fun e w2 ⟨he, hb⟩ => ⟨_, _, _, he, hb⟩
  · have ht := tabA_eq (.inl hq)
    refine abel_err v L w h 6 (.inr rfl) (fun u w' ha => ?_) (fun u w' ha => ?_) (fun u w' ha => ?_)
    · rw [ht] at ha
      exact (Table_over ha hq ho).mono fun e w2 ⟨he, hb⟩ => ⟨_, _, _, he, hb⟩
    · rw [ht] at ha
      exact (PElements_over ha hq ho).mono fun e w2 ⟨he, hb⟩ => ⟨_, _, _, he, hb⟩
    · rw [ht] at ha
      exact (Classes_over ha hq ho).mono fun e w2 ⟨he, hb⟩ => ⟨_, _, _, he, hb⟩
  · have ht := tabA_eq (.inl hq)
    have hp := genQ_perm hq
    have hgr := hg.grp fun q hq => by obtain ⟨p, hp1, rfl⟩ := List.mem_map.1 hq; exact hp.2.2.2.2.1 p hp1
    have h24 := hg.few
    obtain ⟨a1, a2, a3, a4, a5, a6⟩ := hgr.abel hp.2.2.1 hp.2.2.2.1 h24
    have hcl : (classesN E).length ≤ 24 := by
      have := reps_len (E := E) E.length
      simp only [classesN, List.length_map]; omega
    have e1 : oneTo (tabG E (L.headD []).length) (tabG E (L.headD []).length).length = commB E := by
      rw [← a3]; unfold oneTo oneL; rw [List.take_length]
    have e2 : sglTo (classesN E) (classesN E).length = commB E := by
      rw [← a1]; unfold sglTo sglB; rw [List.take_length]
    have e3 : comTo E E.length = commB E := by
      unfold comTo commB comR
      rw [List.take_length]
    have e4 : cntC (classesN E) (classesN E).length = E.length := by
      rw [← a2]; unfold cntC; rw [List.take_length]
    refine abel_ok (E := E) (C := classesN E) (T := tabG E (L.headD []).length) (d := (L.headD []).length) (b := commB E) v L w h hgr hp.2.2.2.1 h24 a5 a4 hcl (fun c hc => by have := (classes_len hc).1; omega) e1 e2 e3 e4 (fun u w' ha => ?_) (fun u w' ha => ?_) (fun u w' ha => ?_)
    · rw [ht] at ha
      exact (Table_yes ha hq hg a6).mono fun e w2 ⟨u, he, ho, hb⟩ => ⟨u, he, rows_args (ho.slr (by omega)), hb⟩
    · rw [ht] at ha
      exact (PElements_yes ha hq hg).mono fun e w2 ⟨x, S, he, hr, hb⟩ => ⟨x, _, _, he, hr.1, hb⟩
    · rw [ht] at ha
      exact (Classes_yes ha hq hg).mono fun e w2 ⟨u, S, H, he, hr, hb⟩ => ⟨_, _, _, he, hr, hb⟩
end Go.Proofs.Ytdackakjcnnofaa
