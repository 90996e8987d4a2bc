/- Plain laws for VoteSays: a tree cut to so many nodes; how many nodes and how deep, looked at so far only; who is told by the reference. -/
import Derived.Test.YtkafoeaffcbheaaVu
namespace Go.Proofs.Ytkafoeaffcbheaa
open Go.RowKit
set_option linter.unusedVariables false

/-- So many nodes of a forest at most, the first ones; and how many are left. -/
def Fo.trunc : Nat → Fo → Fo × Nat
  | L, .nil => (.nil, L)
  | L, .cons v ks r => if L = 0 then (.nil, 0) else (.cons v (ks.trunc (L - 1)).1 (r.trunc (ks.trunc (L - 1)).2).1, (r.trunc (ks.trunc (L - 1)).2).2)

theorem trunc_sum : ∀ (ks : Fo) (L : Nat), (ks.trunc L).1.size + (ks.trunc L).2 = L
  | .nil, L => by simp [Fo.trunc, Fo.size]
  | .cons v ks r, L => by
    by_cases h : L = 0
    · simp [Fo.trunc, Fo.size, h]
    · have h1 := trunc_sum ks (L - 1)
      have h2 := trunc_sum r (ks.trunc (L - 1)).2
      simp only [Fo.trunc, h, if_false, Fo.size]
      omega
theorem trunc_len : ∀ (ks : Fo) (L : Nat), (ks.trunc L).1.len ≤ ks.len
  | .nil, L => by simp [Fo.trunc]
  | .cons v ks r, L => by
    by_cases h : L = 0
    · simp [Fo.trunc, Fo.len, h]
    · have h2 := trunc_len r (ks.trunc (L - 1)).2
      simp only [Fo.trunc, h, if_false, Fo.len]
      omega
theorem trunc_all : ∀ (ks : Fo) (L : Nat), ks.size ≤ L → (ks.trunc L).1 = ks
  | .nil, L, _ => rfl
  | .cons v ks r, L, hs => by
    simp only [Fo.size] at hs
    have h : ¬ L = 0 := by omega
    have h1 := trunc_all ks (L - 1) (by omega)
    have h3 := trunc_sum ks (L - 1)
    rw [h1] at h3
    have h2 := trunc_all r (ks.trunc (L - 1)).2 (by omega)
    simp only [Fo.trunc, h, if_false, h1, h2]
theorem trunc_full : ∀ (ks : Fo) (L : Nat), L < ks.size → (ks.trunc L).2 = 0
  | .nil, L, hs => by simp [Fo.size] at hs
  | .cons v ks r, L, hs => by
    simp only [Fo.size] at hs
    by_cases h : L = 0
    · simp [Fo.trunc, h]
    · simp only [Fo.trunc, h, if_false]
      by_cases hk : L - 1 < ks.size
      · rw [trunc_full ks (L - 1) hk]
        have := trunc_sum r 0
        omega
      · have h1 := trunc_all ks (L - 1) (by omega)
        have h3 := trunc_sum ks (L - 1)
        rw [h1] at h3
        exact trunc_full r _ (by omega)
/-- A tree and its cut are right alike, and alike where they are. -/
theorem trunc_right (v : Int) (ks : Fo) : rightB v (ks.trunc 199).1 = rightB v ks ∧ (rightB v ks = true → (ks.trunc 199).1 = ks) ∧ (ks.trunc 199).1.size ≤ 199 := by
  have hs := trunc_sum ks 199
  by_cases h : ks.size ≤ 199
  · have := trunc_all ks 199 h
    rw [this]
    exact ⟨rfl, fun _ => rfl, h⟩
  · have h0 := trunc_full ks 199 (by omega)
    have e1 : rightB v (ks.trunc 199).1 = false := by
      cases hr : rightB v (ks.trunc 199).1
      · rfl
      · have := right_size hr
        omega
    have e2 : rightB v ks = false := by
      cases hr : rightB v ks
      · rfl
      · have := right_size hr
        omega
    exact ⟨by rw [e1, e2], fun hr => by (rw [e2] at hr; cases hr), by omega⟩

/-- How many nodes, and how deep, so far and with a forest besides; at most that many are looked at. -/
def Fo.cnt2 : Nat → Nat → Nat → Fo → Nat × Nat
  | _, n, d, .nil => (n, d)
  | M, n, d, .cons v ks r => if n ≤ M then Fo.cnt2 M (n + (Fo.cnt2 (M - n) 1 1 ks).1) (if d ≤ (Fo.cnt2 (M - n) 1 1 ks).2 then (Fo.cnt2 (M - n) 1 1 ks).2 + 1 else d) r else (n, d)
def Fo.depth : Fo → Nat
  | .nil => 0
  | .cons _ ks r => max (ks.depth + 1) r.depth

theorem cnt2_le : ∀ (ks : Fo) (M n d : Nat), n ≤ (ks.cnt2 M n d).1 ∧ (ks.cnt2 M n d).1 ≤ n + ks.size ∧ d ≤ (ks.cnt2 M n d).2 ∧ (ks.cnt2 M n d).2 ≤ max d (ks.size + 1)
  | .nil, M, n, d => by simp only [Fo.cnt2, Fo.size]; omega
  | .cons v ks r, M, n, d => by
    simp only [Fo.cnt2, Fo.size]
    have h1 := cnt2_le ks (M - n) 1 1
    split
    · have h2 := cnt2_le r M (n + (Fo.cnt2 (M - n) 1 1 ks).1) (if d ≤ (Fo.cnt2 (M - n) 1 1 ks).2 then (Fo.cnt2 (M - n) 1 1 ks).2 + 1 else d)
      split at h2 <;> (rename_i h3; simp only [h3, if_true, if_false] at h2 ⊢; omega)
    · simp only; omega
theorem cnt2_past {M n d : Nat} {ks : Fo} (h : M < n) : ks.cnt2 M n d = (n, d) := by
  cases ks with
  | nil => rfl
  | cons v ks r => simp only [Fo.cnt2, if_neg (show ¬ n ≤ M by omega)]
theorem cnt2_exact : ∀ (ks : Fo) (M n d : Nat), 1 ≤ n → 1 ≤ d → n + ks.size ≤ M → ks.cnt2 M n d = (n + ks.size, max d (ks.depth + 1))
  | .nil, M, n, d, hn, hd, h => by simp only [Fo.cnt2, Fo.size, Fo.depth]; congr 1; omega
  | .cons v ks r, M, n, d, hn, hd, h => by
    simp only [Fo.size] at h
    have h1 := cnt2_exact ks (M - n) 1 1 (by omega) (by omega) (by omega)
    simp only [Fo.cnt2, if_pos (show n ≤ M by omega), h1, Fo.size, Fo.depth]
    rw [cnt2_exact r M _ _ (by omega) (by split <;> omega) (by omega)]
    congr 1
    · omega
    · split <;> omega
theorem cnt2_more : ∀ (ks : Fo) (M n d : Nat), 1 ≤ n → 1 ≤ d → M < n + ks.size → M < (ks.cnt2 M n d).1
  | .nil, M, n, d, hn, hd, h => by simp only [Fo.cnt2, Fo.size] at h ⊢; omega
  | .cons v ks r, M, n, d, hn, hd, h => by
    simp only [Fo.size] at h
    simp only [Fo.cnt2]
    split
    · rename_i hle
      by_cases hk : 1 + ks.size ≤ M - n
      · have h1 := cnt2_exact ks (M - n) 1 1 (by omega) (by omega) hk
        rw [h1]
        exact cnt2_more r M _ _ (by omega) (by split <;> omega) (by simp only; omega)
      · have h1 := cnt2_more ks (M - n) 1 1 (by omega) (by omega) (by omega)
        rw [cnt2_past (by omega)]
        simp only
        omega
    · simp only; omega

theorem okD_depth : ∀ (ks : Fo) (d : Nat), 1 ≤ d → d ≤ 9 → (ks.okD (d : Int) = true ↔ d + ks.depth ≤ 9 ∧ ∀ x ∈ ks.votes, 1 ≤ x ∧ x ≤ 3)
  | .nil, d, h1, h9 => by simp [Fo.okD, Fo.depth, Fo.votes]; exact h9
  | .cons v ks r, d, h1, h9 => by
    have hr := okD_depth r d h1 h9
    simp only [Fo.okD, Fo.depth, Fo.votes, Bool.and_eq_true, decide_eq_true_eq, hr]
    by_cases h8 : d ≤ 8
    · have hk := okD_depth ks (d + 1) (by omega) (by omega)
      rw [show ((d + 1 : Nat) : Int) = (d : Int) + 1 by omega] at hk
      rw [hk]
      simp only [List.mem_cons, List.mem_append]
      constructor
      · rintro ⟨⟨⟨a, b⟩, c⟩, ⟨e, f⟩, g, i⟩
        refine ⟨by omega, ?_⟩
        rintro x (rfl | hx | hx)
        · exact ⟨b, c⟩
        · exact f x hx
        · exact i x hx
      · rintro ⟨a, b⟩
        exact ⟨⟨⟨by omega, (b v (.inl rfl)).1⟩, (b v (.inl rfl)).2⟩, ⟨by omega, fun x hx => b x (.inr (.inl hx))⟩, by omega, fun x hx => b x (.inr (.inr hx))⟩
    · constructor
      · rintro ⟨⟨⟨a, b⟩, c⟩, _⟩
        omega
      · rintro ⟨a, b⟩
        omega

/-- Right, as the reference finds it. -/
def refRight (v : Int) (ks : Fo) : Bool := decide ((ks.cnt2 64 1 1).1 ≤ 64) && decide ((ks.cnt2 64 1 1).2 ≤ 8) && (v :: ks.votes).all fun x => decide (1 ≤ x) && decide (x ≤ 3)
theorem refRight_eq (v : Int) (ks : Fo) : refRight v ks = rightB v ks := by
  rw [Bool.eq_iff_iff, right_iff]
  have ho := okD_depth ks 2 (by omega) (by omega)
  rw [show ((2 : Nat) : Int) = 2 from rfl] at ho
  rw [ho]
  simp only [refRight, Bool.and_eq_true, decide_eq_true_eq, List.all_eq_true, List.mem_cons]
  by_cases hs : 1 + ks.size ≤ 64
  · rw [cnt2_exact ks 64 1 1 (by omega) (by omega) hs]
    constructor
    · rintro ⟨⟨a, b⟩, c⟩
      simp only at a b
      exact ⟨by omega, (c v (.inl rfl)).1, (c v (.inl rfl)).2, by omega, fun x hx => c x (.inr hx)⟩
    · rintro ⟨a, b, c, d, e⟩
      refine ⟨⟨by simp only; omega, by simp only; omega⟩, ?_⟩
      rintro x (rfl | hx)
      · exact ⟨b, c⟩
      · exact e x hx
  · have := cnt2_more ks 64 1 1 (by omega) (by omega) (by omega)
    constructor
    · rintro ⟨⟨a, b⟩, c⟩; omega
    · rintro ⟨a, b⟩; omega

/-- Who is told among kids that begin at a number. -/
def refTold : Nat → Fo → List Int
  | _, .nil => []
  | n, .cons v ks r => (if saysT v ks = 2 then [] else [(n : Int)]) ++ (refTold (n + 1) ks ++ refTold (n + 1 + ks.size) r)

theorem toldL_append : ∀ (a b : List (Int × Int × Fo)) (n : Nat), toldL n (a ++ b) = toldL n a ++ toldL (n + a.length) b
  | [], b, n => by simp [toldL]
  | x :: a, b, n => by
    have := toldL_append a b (n + 1)
    simp only [List.cons_append, toldL, this, List.length_cons, List.append_assoc]
    rw [show n + 1 + a.length = n + (a.length + 1) by omega]
theorem refTold_eq : ∀ (ks : Fo) (d : Int) (n : Nat), 1 < d → (∀ x ∈ ks.visits d, x.1 ≤ 8) → refTold n ks = toldL n (ks.visits d)
  | .nil, d, n, _, _ => rfl
  | .cons v ks r, d, n, hd, h => by
    have hd8 : ¬ 8 < d := by have := h (d, v, ks) (by simp [Fo.visits]); simp only at this; omega
    have hk : ∀ x ∈ ks.visits (d + 1), x.1 ≤ 8 := fun x hx => h x (by simp only [Fo.visits, hd8, if_false, List.mem_cons, List.mem_append]; exact .inr (.inl hx))
    have hr : ∀ x ∈ r.visits d, x.1 ≤ 8 := fun x hx => h x (by simp only [Fo.visits, List.mem_cons, List.mem_append]; exact .inr (.inr hx))
    simp only [Fo.visits, hd8, if_false, toldL, refTold, toldL_append]
    rw [refTold_eq ks (d + 1) (n + 1) (by omega) hk, refTold_eq r d (n + 1 + ks.size) hd hr, visits_shallow ks (d + 1) hk]
    congr 1
    by_cases h2 : saysT v ks = 2
    · simp [told1, h2]
    · simp [told1, h2, hd]
theorem told_ref {v : Int} {ks : Fo} (h : rightB v ks = true) : refTold 1 ks = toldL 0 (seen 1 v ks) := by
  have h8 : ¬ (8 : Int) < 1 := by omega
  have ha := right_all h
  have hk : ∀ x ∈ ks.visits (1 + 1), x.1 ≤ 8 := fun x hx => (ha x (by simp only [seen, h8, if_false, List.mem_cons]; exact .inr hx)).1
  rw [refTold_eq ks (1 + 1) 1 (by omega) hk]
  simp [seen, toldL, told1]
theorem refTold_len : ∀ (ks : Fo) (n : Nat), (refTold n ks).length ≤ ks.size
  | .nil, _ => Nat.le_refl _
  | .cons v ks r, n => by
    have h1 := refTold_len ks (n + 1)
    have h2 := refTold_len r (n + 1 + ks.size)
    simp only [refTold, List.length_append, Fo.size]
    split <;> (simp only [List.length_nil, List.length_cons]; omega)
theorem votes_size : ∀ ks : Fo, ks.votes.length = ks.size
  | .nil => rfl
  | .cons v ks r => by simp only [Fo.votes, List.length_cons, List.length_append, votes_size ks, votes_size r, Fo.size]
end Go.Proofs.Ytkafoeaffcbheaa
