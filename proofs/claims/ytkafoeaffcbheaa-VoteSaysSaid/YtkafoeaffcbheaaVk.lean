/- Rows of kids in memory: what a slice of trees holds as cells, and back. -/
import Derived.Test.YtkafoeaffcbheaaMem
import Derived.Test.YtkafoeaffcbheaaVq2
namespace Go.Proofs.Ytkafoeaffcbheaa
open Go.RowKit
set_option linter.unusedVariables false

/-- The cells of a row of trees. -/
def RowOf (w : World) (B : Nat) : Fo → List Value → Prop
  | .nil, xs => xs = []
  | .cons v ks r, xs => ∃ (A' : Option Addr) (c : Nat) (rest : List Value), xs = .int .i64 v :: .slice A' ks.len c :: rest ∧ ks.len ≤ c ∧ c ≤ maxLen ∧ KidsAt w B A' 0 ks ∧ RowOf w B r rest

def Fo.app : Fo → Fo → Fo
  | .nil, b => b
  | .cons v ks r, b => .cons v ks (r.app b)
theorem len_app : ∀ a b : Fo, (a.app b).len = a.len + b.len
  | .nil, _ => by simp [Fo.app, Fo.len]
  | .cons _ _ r, b => by simp only [Fo.app, Fo.len, len_app r b]; omega
theorem size_app : ∀ a b : Fo, (a.app b).size = a.size + b.size
  | .nil, _ => by simp [Fo.app, Fo.size]
  | .cons _ _ r, b => by simp only [Fo.app, Fo.size, size_app r b]; omega
theorem votes_app : ∀ a b : Fo, (a.app b).votes = a.votes ++ b.votes
  | .nil, _ => rfl
  | .cons _ _ r, b => by simp [Fo.app, Fo.votes, votes_app r b]

section
variable {w w' : World} {B B' : Nat}
theorem RowOf.length : ∀ {ks : Fo} {xs : List Value}, RowOf w B ks xs → xs.length = ks.len * 2
  | .nil, xs, h => by rw [show xs = [] from h]; rfl
  | .cons _ _ r, xs, ⟨_, _, rest, hx, _, _, _, hr⟩ => by rw [hx]; simp only [List.length_cons, hr.length, Fo.len]; omega
theorem RowOf.one : ∀ {ks : Fo} {xs : List Value}, RowOf w B ks xs → ∀ u ∈ xs, u.oneCell' = true
  | .nil, xs, h, u, hu => by rw [show xs = [] from h] at hu; cases hu
  | .cons _ _ r, xs, ⟨_, _, rest, hx, _, _, _, hr⟩, u, hu => by
    rw [hx] at hu
    rcases List.mem_cons.1 hu with rfl | hu
    · rfl
    · rcases List.mem_cons.1 hu with rfl | hu
      · rfl
      · exact hr.one u hu
theorem RowOf.keep (hB : B ≤ B') (h : ∀ b o, b < B → w'.cell? ⟨b, o, none⟩ = w.cell? ⟨b, o, none⟩) : ∀ {ks : Fo} {xs : List Value}, RowOf w B ks xs → RowOf w' B' ks xs
  | .nil, _, hr => hr
  | .cons _ _ _, _, ⟨A', c, rest, hx, hl, hc, hk, hr⟩ => ⟨A', c, rest, hx, hl, hc, hk.keep hB h, RowOf.keep hB h hr⟩
theorem RowOf.app : ∀ {a b : Fo} {xs ys : List Value}, RowOf w B a xs → RowOf w B b ys → RowOf w B (a.app b) (xs ++ ys)
  | .nil, _, xs, _, h, hb => by rw [show xs = [] from h]; exact hb
  | .cons _ _ _, _, _, _, ⟨A', c, rest, hx, hl, hc, hk, hr⟩, hb => ⟨A', c, rest ++ _, by rw [hx]; rfl, hl, hc, hk, hr.app hb⟩
theorem row_of_kids {b off : Nat} : ∀ {ks : Fo} {i : Nat}, KidsAt w B (some ⟨b, off, none⟩) i ks → ∃ xs, RowOf w B ks xs ∧ ∀ j u, xs[j]? = some u → w.cell? ⟨b, off + i * 2 + j, none⟩ = some u
  | .nil, _, _ => ⟨[], rfl, fun j u h => by simp at h⟩
  | .cons v ks r, i, h => by
    obtain ⟨b', off', c, A', hA, hb, h0, h1, hl, hc, hk⟩ := h.head2
    cases hA
    obtain ⟨rest, hr, hcell⟩ := row_of_kids h.2
    refine ⟨.int .i64 v :: .slice A' ks.len c :: rest, ⟨A', c, rest, rfl, hl, hc, hk, hr⟩, fun j u hu => ?_⟩
    match j with
    | 0 => simp only [List.getElem?_cons_zero, Option.some.injEq] at hu; subst hu; exact h0
    | 1 => simp only [List.getElem?_cons_succ, List.getElem?_cons_zero, Option.some.injEq] at hu; subst hu; exact h1
    | j + 2 =>
      simp only [List.getElem?_cons_succ] at hu
      have := hcell j u hu
      rw [show off + (i + 1) * 2 + j = off + i * 2 + (j + 2) by omega] at this
      exact this
theorem kids_of_row {b off : Nat} (hb : b < B) : ∀ {ks : Fo} {xs : List Value} {i : Nat}, RowOf w B ks xs → (∀ j u, xs[j]? = some u → w.cell? ⟨b, off + i * 2 + j, none⟩ = some u) → KidsAt w B (some ⟨b, off, none⟩) i ks
  | .nil, _, _, _, _ => trivial
  | .cons v ks r, xs, i, ⟨A', c, rest, hx, hl, hc, hk, hr⟩, h => by
    subst hx
    refine ⟨⟨b, off, c, A', rfl, hb, h 0 _ rfl, h 1 _ rfl, hl, hc, hk⟩, kids_of_row hb hr fun j u hu => ?_⟩
    have := h (j + 2) u (by simpa using hu)
    rw [show off + i * 2 + (j + 2) = off + (i + 1) * 2 + j by omega] at this
    exact this
theorem reads_of_kids {A : Option Addr} {ks : Fo} (h : KidsAt w B A 0 ks) : ∃ xs, RowOf w B ks xs ∧ Reads w B 2 A ks.len xs := by
  cases ks with
  | nil => exact ⟨[], rfl, by simp [Fo.len], fun hn => by simp [Fo.len] at hn⟩
  | cons v ks r =>
    obtain ⟨b, off, c, A', rfl, hb, _⟩ := h.head2
    obtain ⟨xs, hr, hc⟩ := row_of_kids h
    refine ⟨xs, hr, hr.length, fun _ => ⟨⟨b, off, none⟩, rfl, hb, fun j u hu => ?_⟩⟩
    have := hc j u hu
    rw [Go.WideShapes.add_plain]
    simpa using this
theorem kids_of_own {base e n : Nat} {v : Value} {xs : List Value} {ks : Fo} (h : w.ownsRow base e 2 v n xs) (hr : RowOf w B ks xs) (hB : B ≤ w.heap.size) :
    ∃ A c, v = .slice A ks.len c ∧ ks.len ≤ c ∧ c ≤ maxLen ∧ KidsAt w w.heap.size A 0 ks := by
  have hn : n = ks.len := by have h1 := h.1; have h2 := hr.length; omega
  subst hn
  rcases h.2 with ⟨rfl, h0⟩ | ⟨g, cap, cur, rfl, _, hg, hnc, hcap, _, _⟩
  · cases ks with
    | nil => exact ⟨none, 0, rfl, Nat.le_refl _, by unfold maxLen; omega, trivial⟩
    | cons v ks r => simp [Fo.len] at h0
  · refine ⟨some ⟨g, 0, none⟩, cap, rfl, hnc, hcap, ?_⟩
    have hr' : RowOf w w.heap.size ks xs := hr.keep hB fun _ _ _ => rfl
    refine kids_of_row (h.lt g rfl).2 hr' fun j u hu => ?_
    have hj : j < xs.length := (List.getElem?_eq_some_iff.1 hu).1
    have := h.cellAt j (by rw [← h.1]; exact hj)
    rw [hu] at this
    simpa using this
end

/-- Where all kids may stand, in a right tree, the first ones that deep. -/
def Fo.okD : Int → Fo → Bool
  | _, .nil => true
  | d, .cons v ks r => (decide (d ≤ 8) && decide (1 ≤ v) && decide (v ≤ 3)) && (ks.okD (d + 1) && r.okD d)
theorem okD_app (d : Int) : ∀ a b : Fo, (a.app b).okD d = (a.okD d && b.okD d)
  | .nil, _ => by simp [Fo.app, Fo.okD]
  | .cons _ _ r, b => by simp only [Fo.app, Fo.okD, okD_app d r b, Bool.and_assoc]
theorem okD_visits : ∀ (ks : Fo) (d : Int), (ks.visits d).all okNode = ks.okD d
  | .nil, _ => rfl
  | .cons v ks r, d => by
    have h1 := okD_visits ks (d + 1)
    have h2 := okD_visits r d
    simp only [Fo.visits, Fo.okD, List.all_cons, List.all_append, h2, okNode]
    by_cases hd : d ≤ 8
    · have : ¬ 8 < d := by omega
      simp only [this, if_false, h1]
    · simp [hd]
theorem right_iff (v : Int) (ks : Fo) : rightB v ks = true ↔ ks.size + 1 ≤ 64 ∧ 1 ≤ v ∧ v ≤ 3 ∧ ks.okD 2 = true := by
  have h8 : ¬ (8 : Int) < 1 := by omega
  have e : seen 1 v ks = (1, v, ks) :: ks.visits (1 + 1) := by unfold seen; rw [if_neg h8]
  have ho : (seen 1 v ks).all okNode = (decide (1 ≤ v) && decide (v ≤ 3) && ks.okD 2) := by
    rw [e, List.all_cons, okD_visits]
    simp [okNode]
  constructor
  · intro h
    have hs := right_size h
    simp only [rightB, rightL, ho, Bool.and_eq_true, decide_eq_true_eq] at h
    exact ⟨hs, h.2.1.1, h.2.1.2, h.2.2⟩
  · rintro ⟨hs, h1, h3, hk⟩
    have hall : ∀ x ∈ ks.visits (1 + 1), x.1 ≤ 8 := fun x hx => by
      have h4 := okD_visits ks (1 + 1)
      rw [show (1 : Int) + 1 = 2 from rfl, hk, List.all_eq_true] at h4
      have := h4 x hx
      simp only [okNode, Bool.and_eq_true, decide_eq_true_eq] at this
      exact this.1.1
    have hl : (seen 1 v ks).length = ks.size + 1 := by rw [e, List.length_cons, visits_shallow ks (1 + 1) hall]
    simp only [rightB, rightL, ho, hl, h1, h3, hk, decide_true, Bool.and_self, Bool.and_true, decide_eq_true_eq]
    exact hs
end Go.Proofs.Ytkafoeaffcbheaa
