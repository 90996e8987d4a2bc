/- Plain lemmas: what a right tree is like; which nodes are told. -/
import Derived.Test.YtkafoeaffcbheaaVr
import Derived.Test.YtkafoeaffcbheaaVn
namespace Go.Proofs.Ytkafoeaffcbheaa
open Go.RowKit
set_option linter.unusedVariables false

theorem visits_shallow : ∀ (ks : Fo) (d : Int), (∀ x ∈ ks.visits d, x.1 ≤ 8) → (ks.visits d).length = ks.size
  | .nil, _, _ => rfl
  | .cons v ks r, d, h => by
    have hd : ¬ 8 < d := by
      have := h (d, v, ks) (by simp [Fo.visits])
      simp only at this
      omega
    have h1 := visits_shallow ks (d + 1) fun x hx => h x (by simp [Fo.visits, hd, hx])
    have h2 := visits_shallow r d fun x hx => h x (by simp [Fo.visits, hx])
    simp only [Fo.visits, hd, if_false, List.length_cons, List.length_append, h1, h2, Fo.size]
theorem seen_len {v : Int} {ks : Fo} (h : rightB v ks = true) : (seen 1 v ks).length = ks.size + 1 := by
  have hall : ∀ x ∈ seen 1 v ks, x.1 ≤ 8 := fun x hx => by
    simp only [rightB, rightL, Bool.and_eq_true, List.all_eq_true] at h
    have := h.2 x hx
    simp only [okNode, Bool.and_eq_true, decide_eq_true_eq] at this
    exact this.1.1
  have h8 : ¬ (8 : Int) < 1 := by omega
  simp only [seen, h8, if_false, List.length_cons]
  rw [visits_shallow ks (1 + 1) fun x hx => hall x (by unfold seen; rw [if_neg h8]; exact List.mem_cons_of_mem _ hx)]
theorem right_size {v : Int} {ks : Fo} (h : rightB v ks = true) : ks.size + 1 ≤ 64 := by
  have h1 := seen_len h
  simp only [rightB, rightL, Bool.and_eq_true, decide_eq_true_eq] at h
  omega

/-- Is a node that a walk meets told the outcome? -/
def told1 (x : Int × Int × Fo) : Bool := decide (1 < x.1) && (saysT x.2.1 x.2.2 != 2)
/-- The numbers of those that are told, the first one's number being n. -/
def toldL : Nat → List (Int × Int × Fo) → List Int
  | _, [] => []
  | n, x :: l => (if told1 x = true then [(n : Int)] else []) ++ toldL (n + 1) l
theorem toldL_snoc (x : Int × Int × Fo) : ∀ (l : List (Int × Int × Fo)) (n : Nat), toldL n (l ++ [x]) = toldL n l ++ (if told1 x = true then [((n + l.length : Nat) : Int)] else [])
  | [], n => by simp [toldL]
  | y :: l, n => by
    simp only [List.cons_append, toldL, toldL_snoc x l (n + 1), List.append_assoc, List.length_cons]
    rw [show n + 1 + l.length = n + (l.length + 1) by omega]
theorem toldL_len : ∀ (l : List (Int × Int × Fo)) (n : Nat), (toldL n l).length ≤ l.length
  | [], _ => Nat.le_refl _
  | x :: l, n => by
    have := toldL_len l (n + 1)
    simp only [toldL, List.length_append, List.length_cons]
    split <;> simp only [List.length_cons, List.length_nil] <;> omega
end Go.Proofs.Ytkafoeaffcbheaa
