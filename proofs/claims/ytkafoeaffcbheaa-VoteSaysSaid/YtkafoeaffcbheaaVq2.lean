/- Plain laws on who is told and on flows. -/
import Derived.Test.YtkafoeaffcbheaaVq
import Derived.Test.YtkafoeaffcbheaaVf
namespace Go.Proofs.Ytkafoeaffcbheaa
set_option linter.unusedVariables false

theorem toldL_ge : ∀ (l : List (Int × Int × Fo)) (n : Nat), ∀ x ∈ toldL n l, (n : Int) ≤ x
  | [], _, x, hx => by simp [toldL] at hx
  | y :: l, n, x, hx => by
    simp only [toldL, List.mem_append] at hx
    rcases hx with hx | hx
    · split at hx
      · simp only [List.mem_singleton] at hx; omega
      · simp at hx
    · have := toldL_ge l (n + 1) x hx
      omega
theorem toldL_rising : ∀ (l : List (Int × Int × Fo)) (n : Nat), (toldL n l).Pairwise (· < ·)
  | [], _ => List.Pairwise.nil
  | y :: l, n => by
    simp only [toldL]
    refine List.pairwise_append.2 ⟨by split <;> simp, toldL_rising l (n + 1), fun a ha b hb => ?_⟩
    have h1 := toldL_ge l (n + 1) b hb
    split at ha
    · simp only [List.mem_singleton] at ha; omega
    · simp at ha
theorem told_le {v : Int} {ks : Fo} (h : rightB v ks = true) : (toldL 0 (seen 1 v ks)).length ≤ ks.size := by
  have h1 := seen_len h
  unfold seen at h1 ⊢
  have ht : told1 ((1 : Int), v, ks) = false := by simp [told1]
  simp only [toldL, ht, Bool.false_eq_true, if_false, List.nil_append, List.length_cons] at h1 ⊢
  have := toldL_len (if (8 : Int) < 1 then [] else ks.visits (1 + 1)) (0 + 1)
  omega

theorem visits_sub : ∀ (ks : Fo) (d : Int), ∀ x ∈ ks.visits d, ∀ y ∈ x.2.1 :: x.2.2.votes, y ∈ ks.votes
  | .nil, _, x, hx, _, _ => by simp [Fo.visits] at hx
  | .cons v ks r, d, x, hx, y, hy => by
    simp only [Fo.visits, List.mem_cons, List.mem_append] at hx
    simp only [Fo.votes, List.mem_cons, List.mem_append]
    rcases hx with rfl | hx | hx
    · simp only [List.mem_cons] at hy
      rcases hy with rfl | hy
      · exact .inl rfl
      · exact .inr (.inl hy)
    · split at hx
      · simp at hx
      · exact .inr (.inl (visits_sub ks (d + 1) x hx y hy))
    · exact .inr (.inr (visits_sub r d x hx y hy))
theorem says3_two {xs : List Int} : says3F xs = 2 ↔ ∀ y ∈ xs, y = 2 := by
  rw [says3_eq]
  constructor
  · intro h
    cases hb : badL xs
    · cases ho : oneL xs
      · intro y hy
        simp only [badL, List.any_eq_false, Bool.and_eq_true, bne_iff_ne, ne_eq, not_and, Decidable.not_not] at hb
        simp only [oneL, List.any_eq_false, beq_iff_eq] at ho
        exact hb y hy (ho y hy)
      · rw [hb, ho] at h; simp at h
    · rw [hb] at h; simp at h
  · intro h
    have hb : badL xs = false := by
      simp only [badL, List.any_eq_false, Bool.and_eq_true, bne_iff_ne, ne_eq, not_and, Decidable.not_not]
      exact fun y hy _ => h y hy
    have ho : oneL xs = false := by
      simp only [oneL, List.any_eq_false, beq_iff_eq]
      intro y hy
      have := h y hy
      omega
    rw [hb, ho]
    simp
/-- Where all of a tree says read only nobody is told. -/
theorem told_none {v : Int} {ks : Fo} (h : saysT v ks = 2) : toldL 0 (seen 1 v ks) = [] := by
  rw [saysT_votes, says3_two] at h
  have each : ∀ x ∈ seen 1 v ks, told1 x = false := fun x hx => by
    have h2 : saysT x.2.1 x.2.2 = 2 := by
      rw [saysT_votes, says3_two]
      intro y hy
      unfold seen at hx
      rcases List.mem_cons.1 hx with rfl | hx
      · exact h y hy
      · split at hx
        · simp at hx
        · exact h y (List.mem_cons_of_mem _ (visits_sub ks (1 + 1) x hx y hy))
    simp [told1, h2]
  have gen : ∀ (l : List (Int × Int × Fo)) (n : Nat), (∀ x ∈ l, told1 x = false) → toldL n l = [] := by
    intro l
    induction l with
    | nil => intro _ _; rfl
    | cons x l ih =>
      intro n hx
      simp only [toldL, hx x (by simp), Bool.false_eq_true, if_false, List.nil_append]
      exact ih (n + 1) fun y hy => hx y (List.mem_cons_of_mem _ hy)
  exact gen _ 0 each
end Go.Proofs.Ytkafoeaffcbheaa
