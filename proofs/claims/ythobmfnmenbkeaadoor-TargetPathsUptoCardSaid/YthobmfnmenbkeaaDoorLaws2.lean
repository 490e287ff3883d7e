/- Plain laws of layer 8's words, the second part: lengths. No program stands in this text. -/
import Derived.Test.YthobmfnmenbkeaaDoorLaws
namespace Go.Proofs.YthobmfnmenbkeaaDoor.Tg

theorem glue_len_last (out : List (List UInt8)) (h : out ≠ []) : (glue out.dropLast).length + 1 ≤ (glue out).length := by
  obtain ⟨init, x, rfl⟩ : ∃ init x, out = init ++ [x] := by
    rcases List.eq_nil_or_concat out with e | ⟨i, x, e⟩
    · exact absurd e h
    · exact ⟨i, x, by rw [e, List.concat_eq_append]⟩
  rw [List.dropLast_concat, glue_append, glue_cons, glue_nil]; simp
theorem dots_len : ∀ (l out o : List (List UInt8)), dots out l = some o → (glue o).length ≤ (glue out).length + (glue l).length := by
  intro l
  induction l with
  | nil => intro out o e; rw [dots_nil] at e; cases e; simp [glue_nil]
  | cons s t ih =>
    intro out o e
    have hg : (glue (s :: t)).length = s.length + 1 + (glue t).length := by rw [glue_cons]; simp; omega
    unfold dots at e
    split at e
    · rename_i hs
      subst hs
      split at e
      · cases e
      · rename_i hne
        have := glue_len_last out hne
        split at e
        · cases e; rw [glue_append, List.length_append, glue_cons, glue_nil]; simp at hg ⊢; omega
        · have := ih _ o e; omega
    · split at e
      · rename_i hs
        subst hs
        split at e
        · cases e; rw [glue_append, List.length_append, glue_cons, glue_nil]; simp at hg ⊢; omega
        · have := ih _ o e; omega
      · have := ih _ o e
        rw [glue_append, List.length_append, glue_cons s [], glue_nil] at this
        simp at this; omega

end Go.Proofs.YthobmfnmenbkeaaDoor.Tg
