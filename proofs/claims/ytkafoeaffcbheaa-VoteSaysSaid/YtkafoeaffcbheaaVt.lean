/- Trees of votes as plain data (a forest: a node's vote, its kids, what stands beside it), how they lie in memory, and the nodes that a walk meets. -/
import Derived.Test.YtkafoeaffcbheaaBase
namespace Go.Proofs.Ytkafoeaffcbheaa
open Go.RowKit

/-- A list of trees: a node (its vote, its kids), and the trees behind it. -/
inductive Fo where
  | nil
  | cons (v : Int) (ks rest : Fo)

def Fo.len : Fo → Nat
  | .nil => 0
  | .cons _ _ r => r.len + 1
def Fo.size : Fo → Nat
  | .nil => 0
  | .cons _ ks r => ks.size + r.size + 1

/-- The kids that a slice holds from place i on, in blocks below B. -/
def KidsAt (w : World) (B : Nat) : Option Addr → Nat → Fo → Prop
  | _, _, .nil => True
  | A, i, .cons v ks r => (∃ (b off c : Nat) (A' : Option Addr), A = some ⟨b, off, none⟩ ∧ b < B ∧ w.cell? ⟨b, off + i * 2, none⟩ = some (.int .i64 v) ∧
      w.cell? ⟨b, off + i * 2 + 1, none⟩ = some (.slice A' ks.len c) ∧ ks.len ≤ c ∧ c ≤ maxLen ∧ KidsAt w B A' 0 ks) ∧ KidsAt w B A (i + 1) r

/-- A node lies at an address. -/
def NodeAt (w : World) (B : Nat) (b off : Nat) (v : Int) (ks : Fo) : Prop :=
  ∃ (c : Nat) (A : Option Addr), b < B ∧ w.cell? ⟨b, off, none⟩ = some (.int .i64 v) ∧ w.cell? ⟨b, off + 1, none⟩ = some (.slice A ks.len c) ∧ ks.len ≤ c ∧ c ≤ maxLen ∧ KidsAt w B A 0 ks

theorem KidsAt.keep {w w' : World} {B B' : Nat} (hB : B ≤ B') (h : ∀ b o, b < B → w'.cell? ⟨b, o, none⟩ = w.cell? ⟨b, o, none⟩) :
    ∀ {ks : Fo} {A : Option Addr} {i : Nat}, KidsAt w B A i ks → KidsAt w' B' A i ks
  | .nil, _, _, _ => trivial
  | .cons _ _ _, _, _, ⟨⟨b, off, c, A', hA, hb, h0, h1, hl, hc, hk⟩, hr⟩ =>
    ⟨⟨b, off, c, A', hA, by omega, (h _ _ hb).trans h0, (h _ _ hb).trans h1, hl, hc, KidsAt.keep hB h hk⟩, KidsAt.keep hB h hr⟩
theorem KidsAt.below {w w' : World} {B : Nat} (hb : Below B w w') {ks : Fo} {A : Option Addr} {i : Nat} (h : KidsAt w B A i ks) : KidsAt w' B A i ks :=
  h.keep (Nat.le_refl _) fun b o hlt => hb.cell (p := ⟨b, o, none⟩) hlt
theorem NodeAt.keep {w w' : World} {B B' : Nat} (hB : B ≤ B') (h : ∀ b o, b < B → w'.cell? ⟨b, o, none⟩ = w.cell? ⟨b, o, none⟩) {b off : Nat} {v : Int} {ks : Fo}
    (hn : NodeAt w B b off v ks) : NodeAt w' B' b off v ks := by
  obtain ⟨c, A, hb, h0, h1, hl, hc, hk⟩ := hn
  exact ⟨c, A, by omega, (h _ _ hb).trans h0, (h _ _ hb).trans h1, hl, hc, hk.keep hB h⟩
theorem NodeAt.below {w w' : World} {B : Nat} (hb : Below B w w') {b off : Nat} {v : Int} {ks : Fo} (h : NodeAt w B b off v ks) : NodeAt w' B b off v ks :=
  h.keep (Nat.le_refl _) fun b o hlt => hb.cell (p := ⟨b, o, none⟩) hlt
theorem KidsAt.head {w : World} {B i : Nat} {A : Option Addr} {v : Int} {ks r : Fo} (h : KidsAt w B A i (.cons v ks r)) :
    ∃ b off, A = some ⟨b, off, none⟩ ∧ NodeAt w B b (off + i * 2) v ks := by
  obtain ⟨⟨b, off, c, A', hA, hb, h0, h1, hl, hc, hk⟩, _⟩ := h
  exact ⟨b, off, hA, c, A', hb, h0, h1, hl, hc, hk⟩

/-- What a walk meets of a forest whose trees stand that deep: each node's depth, vote and kids; nothing below the depth 9. -/
def Fo.visits : Int → Fo → List (Int × Int × Fo)
  | _, .nil => []
  | d, .cons v ks r => (d, v, ks) :: ((if 8 < d then [] else ks.visits (d + 1)) ++ r.visits d)
/-- What a walk meets of a node. -/
def seen (d v : Int) (ks : Fo) : List (Int × Int × Fo) := (d, v, ks) :: (if 8 < d then [] else ks.visits (d + 1))

theorem visits_cons (d v : Int) (ks r : Fo) : (Fo.cons v ks r).visits d = seen d v ks ++ r.visits d := by simp [Fo.visits, seen]

end Go.Proofs.Ytkafoeaffcbheaa
