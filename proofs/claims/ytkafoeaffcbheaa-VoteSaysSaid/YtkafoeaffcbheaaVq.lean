/- Plain laws on what trees say, with no program in sight. -/
import Derived.Test.YtkafoeaffcbheaaVp
namespace Go.Proofs.Ytkafoeaffcbheaa
set_option linter.unusedVariables false

def badL (xs : List Int) : Bool := xs.any fun x => x != 1 && x != 2
def oneL (xs : List Int) : Bool := xs.any fun x => x == 1

theorem s3_eq : ∀ (xs : List Int) (o : Int), o = 1 ∨ o = 2 → s3 xs o = if badL xs = true then 3 else if oneL xs = true ∨ o = 1 then 1 else 2
  | [], o, ho => by rcases ho with rfl | rfl <;> simp [s3, badL, oneL]
  | x :: xs, o, ho => by
    have h1 := s3_eq xs (if o = 2 then 1 else o) (by rcases ho with rfl | rfl <;> simp)
    have h2 := s3_eq xs o ho
    unfold s3
    by_cases x1 : x = 1
    · subst x1
      rw [if_pos rfl, h1]
      rcases ho with rfl | rfl <;> simp [badL, oneL]
    · rw [if_neg x1]
      by_cases x2 : x = 2
      · subst x2
        rw [if_pos rfl, h2]
        simp [badL, oneL]
      · rw [if_neg x2]
        simp [badL, x1, x2]
theorem says3_eq (xs : List Int) : says3F xs = if badL xs = true then 3 else if oneL xs = true then 1 else 2 := by
  unfold says3F
  rw [s3_eq xs 2 (.inr rfl)]
  simp
theorem says3_cases (xs : List Int) : says3F xs = 3 ∧ badL xs = true ∨ says3F xs = 1 ∧ badL xs = false ∧ oneL xs = true ∨ says3F xs = 2 ∧ badL xs = false ∧ oneL xs = false := by
  rw [says3_eq]
  cases badL xs <;> cases oneL xs <;> simp

def Fo.votes : Fo → List Int
  | .nil => []
  | .cons v ks r => v :: (ks.votes ++ r.votes)

theorem bad_cons (x : Int) (xs : List Int) : badL (x :: xs) = ((x != 1 && x != 2) || badL xs) := by simp [badL]
theorem one_cons (x : Int) (xs : List Int) : oneL (x :: xs) = ((x == 1) || oneL xs) := by simp [oneL]
theorem bad_append (xs ys : List Int) : badL (xs ++ ys) = (badL xs || badL ys) := by simp [badL]
theorem one_append (xs ys : List Int) : oneL (xs ++ ys) = (oneL xs || oneL ys) := by simp [oneL]

theorem says_votes : ∀ ks : Fo, badL ks.says = badL ks.votes ∧ (badL ks.votes = false → oneL ks.says = oneL ks.votes)
  | .nil => ⟨rfl, fun _ => rfl⟩
  | .cons v ks r => by
    obtain ⟨b1, o1⟩ := says_votes ks
    obtain ⟨b2, o2⟩ := says_votes r
    simp only [Fo.says, Fo.votes, bad_cons, one_cons, bad_append, one_append, b2]
    rcases says3_cases (v :: ks.says) with ⟨h, hb⟩ | ⟨h, hb, ho⟩ | ⟨h, hb, ho⟩
    · rw [bad_cons, b1] at hb
      rw [h]
      refine ⟨?_, fun hf => ?_⟩
      · rw [← Bool.or_assoc, hb]; simp
      · rw [← Bool.or_assoc, hb] at hf; simp at hf
    · rw [bad_cons, b1] at hb
      rw [one_cons] at ho
      rw [h]
      refine ⟨?_, fun hf => ?_⟩
      · rw [← Bool.or_assoc, hb]; simp
      · rw [← Bool.or_assoc, hb] at hf
        simp only [Bool.or_eq_false_iff] at hb
        rw [← o1 hb.2, ← Bool.or_assoc, ho]
        simp
    · rw [bad_cons, b1] at hb
      rw [one_cons] at ho
      rw [h]
      refine ⟨?_, fun hf => ?_⟩
      · rw [← Bool.or_assoc, hb]; simp
      · rw [← Bool.or_assoc, hb] at hf
        simp only [Bool.false_or] at hf
        simp only [Bool.or_eq_false_iff] at hb
        rw [← o1 hb.2, ← Bool.or_assoc, ho, o2 hf]
        simp

/-- What a tree says hangs on its votes alone. -/
theorem saysT_votes (v : Int) (ks : Fo) : saysT v ks = says3F (v :: ks.votes) := by
  unfold saysT
  obtain ⟨b1, o1⟩ := says_votes ks
  rw [says3_eq, says3_eq, bad_cons, bad_cons, one_cons, one_cons, b1]
  cases hb : badL ks.votes
  · rw [o1 hb]
  · simp

theorem visits_votes : ∀ (ks : Fo) (d : Int), (∀ x ∈ ks.visits d, x.1 ≤ 8) → (ks.visits d).map (fun x => x.2.1) = ks.votes
  | .nil, _, _ => rfl
  | .cons v ks r, d, h => by
    have hd : ¬ 8 < d := by
      have := h (d, v, ks) (by simp [Fo.visits])
      simp only at this
      omega
    have h1 := visits_votes ks (d + 1) fun x hx => h x (by simp [Fo.visits, hd, hx])
    have h2 := visits_votes r d fun x hx => h x (by simp [Fo.visits, hx])
    simp only [Fo.visits, hd, if_false, List.map_cons, List.map_append, h1, h2, Fo.votes]

theorem right_all {v : Int} {ks : Fo} (h : rightB v ks = true) : ∀ x ∈ seen 1 v ks, x.1 ≤ 8 ∧ 1 ≤ x.2.1 ∧ x.2.1 ≤ 3 := fun x hx => by
  simp only [rightB, rightL, Bool.and_eq_true, List.all_eq_true] at h
  have := h.2 x hx
  simp only [okNode, Bool.and_eq_true, decide_eq_true_eq] at this
  exact ⟨this.1.1, this.1.2, this.2⟩
theorem seen_votes {v : Int} {ks : Fo} (h : rightB v ks = true) : (seen 1 v ks).map (fun x => x.2.1) = v :: ks.votes := by
  have hall := right_all h
  have h8 : ¬ (8 : Int) < 1 := by omega
  have e : seen 1 v ks = (1, v, ks) :: ks.visits (1 + 1) := by unfold seen; rw [if_neg h8]
  rw [e, List.map_cons, visits_votes ks (1 + 1) fun x hx => (hall x (by rw [e]; exact List.mem_cons_of_mem _ hx)).1]
theorem right_votes {v : Int} {ks : Fo} (h : rightB v ks = true) : ∀ x ∈ v :: ks.votes, 1 ≤ x ∧ x ≤ 3 := fun x hx => by
  rw [← seen_votes h] at hx
  obtain ⟨y, hy, rfl⟩ := List.mem_map.1 hx
  exact (right_all h y hy).2

theorem no_votes : ∀ ks : Fo, ks.no = ks.votes.any (fun x => x == 3)
  | .nil => rfl
  | .cons v ks r => by
    simp only [Fo.no, Fo.votes, List.any_cons, List.any_append, no_votes ks, no_votes r, Bool.or_assoc]
theorem noT_votes (v : Int) (ks : Fo) : noT v ks = (v :: ks.votes).any (fun x => x == 3) := by
  simp only [noT, List.any_cons, no_votes ks]
theorem bad_three {xs : List Int} (h : ∀ x ∈ xs, 1 ≤ x ∧ x ≤ 3) : badL xs = xs.any (fun x => x == 3) := by
  induction xs with
  | nil => rfl
  | cons x xs ih =>
    rw [bad_cons, ih fun y hy => h y (List.mem_cons_of_mem _ hy), List.any_cons]
    congr 1
    have := h x (by simp)
    have : x = 1 ∨ x = 2 ∨ x = 3 := by omega
    rcases this with rfl | rfl | rfl <;> rfl
/-- ALL OR NONE. -/
theorem commits_iff {v : Int} {ks : Fo} (h : rightB v ks = true) : (saysT v ks != 3) = !noT v ks := by
  rw [saysT_votes, noT_votes, ← bad_three (right_votes h), says3_eq]
  cases badL (v :: ks.votes) <;> cases oneL (v :: ks.votes) <;> rfl
end Go.Proofs.Ytkafoeaffcbheaa
