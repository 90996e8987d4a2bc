/- A tree whose kids are laid one behind another: what its world holds. -/
import Derived.Test.YtkafoeaffcbheaaVz
import Derived.Test.YtkafoeaffcbheaaVu
import Derived.Test.YtkafoeaffcbheaaVm
namespace Go.Proofs.Ytkafoeaffcbheaa
open Go.RowKit
set_option linter.unusedVariables false

theorem RowOf.drew {w : World} {B : Nat} {ks : Fo} {xs : List Value} (h : RowOf w B ks xs) : RowOf w.drew B ks xs := RowOf.keep (w := w) (w' := w.drew) (Nat.le_refl _) (fun _ _ _ => rfl) h
theorem RowOf.same {w w' : World} {B : Nat} {ks : Fo} {xs : List Value} (h : RowOf w B ks xs) {base : Nat} (hb : Below base w w') (hB : B ≤ base) : RowOf w' B ks xs := h.keep (Nat.le_refl _) fun b o hlt => hb.cell (p := ⟨b, o, none⟩) (show b < base by omega)

/-- A kid's two cells, and its own kids. -/
def KidIs (b o : Nat) (kv : Int) (Ak : Option Addr) (ck : Nat) (k : Fo) (W : World) : Prop :=
  W.cell? ⟨b, o, none⟩ = some (.int .i64 kv) ∧ W.cell? ⟨b, o + 1, none⟩ = some (.slice Ak k.len ck) ∧ b < W.heap.size ∧ KidsAt W W.heap.size Ak 0 k
theorem KidIs.below {b o : Nat} {kv : Int} {Ak : Option Addr} {ck : Nat} {k : Fo} {W W' : World} (hb : Below W.heap.size W W') (h : KidIs b o kv Ak ck k W) : KidIs b o kv Ak ck k W' :=
  ⟨(hb.cell (p := ⟨b, o, none⟩) h.2.2.1).trans h.1, (hb.cell (p := ⟨b, o + 1, none⟩) h.2.2.1).trans h.2.1, Nat.lt_of_lt_of_le h.2.2.1 hb.size, h.2.2.2.keep hb.size fun b o hlt => hb.cell (p := ⟨b, o, none⟩) hlt⟩

theorem split_at {ks : Fo} {j : Nat} {x : Int × Fo} (h : ks.list[j]? = some x) : (Fo.of (ks.list.take j)).app (.cons x.1 x.2 (Fo.of (ks.list.drop (j + 1)))) = ks := by
  have hj : j < ks.list.length := (List.getElem?_eq_some_iff.1 h).1
  have hx : ks.list[j] = x := (List.getElem?_eq_some_iff.1 h).2
  have e : ks.list = ks.list.take j ++ x :: ks.list.drop (j + 1) := by
    rw [← hx, ← List.drop_eq_getElem_cons hj, List.take_append_drop]
  have := of_append (ks.list.take j) (x :: ks.list.drop (j + 1))
  rw [← e, of_list] at this
  exact this.symm

/-- The variable of the argument (block N), the variable of the tree that is built (block M), and the row that it owns. -/
def Built (N M : Nat) (v : Int) (A : Option Addr) (n c : Nat) (u : Fo) (xs : List Value) (w2 wx : World) (A3 : Option Addr) (c3 : Nat) : Prop :=
  wx.cell? ⟨N, 0, none⟩ = some (.int .i64 v) ∧ wx.cell? ⟨N, 1, none⟩ = some (.slice A n c) ∧ wx.cell? ⟨M, 0, none⟩ = some (.int .i64 v) ∧ wx.cell? ⟨M, 1, none⟩ = some (.slice A3 u.len c3) ∧
  wx.frozen? ⟨M, 1, none⟩ = false ∧ wx.ownsRow (M + 1) 24 2 (.slice A3 u.len c3) u.len xs ∧ RowOf wx M u xs ∧ Below M w2 wx ∧ M < wx.heap.size

theorem Built.zero {N : Nat} {v : Int} {A : Option Addr} {n c : Nat} {w2 : World} (hN : N < w2.heap.size) (h0 : w2.cell? ⟨N, 0, none⟩ = some (.int .i64 v)) (h1 : w2.cell? ⟨N, 1, none⟩ = some (.slice A n c)) :
    Built N w2.heap.size v A n c .nil [] w2 (w2.alloc (.cells #[.int .i64 v, .slice none 0 0] 24)) none 0 :=
  ⟨(World.cell?_alloc_lt w2 _ ⟨N, 0, none⟩ hN).trans h0, (World.cell?_alloc_lt w2 _ ⟨N, 1, none⟩ hN).trans h1, by simp, by simp [Fo.len], by simp, World.ownsRow_nil _ _ _ _, rfl, below_alloc (Below.refl _ _) _, by simp⟩

theorem Built.drew {N M : Nat} {v : Int} {A : Option Addr} {n c : Nat} {u : Fo} {xs : List Value} {w2 wx : World} {A3 : Option Addr} {c3 : Nat} (h : Built N M v A n c u xs w2 wx A3 c3) : Built N M v A n c u xs w2 wx.drew A3 c3 :=
  ⟨h.1, h.2.1, h.2.2.1, h.2.2.2.1, h.2.2.2.2.1, h.2.2.2.2.2.1.drew, h.2.2.2.2.2.2.1.drew, h.2.2.2.2.2.2.2.1.drew, h.2.2.2.2.2.2.2.2⟩

/-- The store behind an append. -/
theorem Built.store {N M : Nat} {v : Int} {A : Option Addr} {n c : Nat} {u u' : Fo} {xs xs' : List Value} {w2 wx w3 : World} {A3 A4 : Option Addr} {c3 c4 : Nat} (hN : N < M) (h : Built N M v A n c u xs w2 wx A3 c3)
    (hb : Below (M + 1) wx w3) (hown : w3.ownsRow (M + 1) 24 2 (.slice A4 u'.len c4) u'.len xs') (hrow : RowOf w3 M u' xs') :
    Built N M v A n c u' xs' w2 (w3.setCell ⟨M, 1, none⟩ (.slice A4 u'.len c4)) A4 c4 := by
  obtain ⟨f0, f1, f2, f3, f4, _, _, fB, fM⟩ := h
  have g0 := hb.cellOf (by omega) f0
  have g1 := hb.cellOf (by omega) f1
  have g2 := hb.cellOf (by omega) f2
  have g3 := hb.cellOf (by omega) f3
  have g4 : w3.frozen? ⟨M, 1, none⟩ = false := (hb.frozen (p := ⟨M, 1, none⟩) (by simp)).trans f4
  have hb4 : Below M w3 (w3.setCell ⟨M, 1, none⟩ (.slice A4 u'.len c4)) := (Below.refl M w3).setCell (Nat.le_refl _) _
  refine ⟨hb4.cellOf hN g0, hb4.cellOf hN g1, ?_, World.cell?_setCell_same' w3 _ _ (by rw [g3]; rfl), by simp [g4], ownsRow_setCell_below hown (by simp) _, hrow.same hb4 (Nat.le_refl _), (fB.trans (hb.mono (by omega))).trans hb4, Nat.lt_of_lt_of_le fM (Nat.le_trans hb.size hb4.size)⟩
  rw [World.cell?_setCell_other _ _ _ _ (by simp)]
  exact g2

theorem Built.kids {N M : Nat} {v : Int} {A : Option Addr} {n c : Nat} {u : Fo} {xs : List Value} {w2 wx : World} {A3 : Option Addr} {c3 : Nat} (h : Built N M v A n c u xs w2 wx A3 c3) : u.len ≤ c3 ∧ c3 ≤ maxLen ∧ KidsAt wx wx.heap.size A3 0 u := by
  obtain ⟨A7, c7, he7, h1, h2, h3⟩ := kids_of_own h.2.2.2.2.2.1 h.2.2.2.2.2.2.1 (Nat.le_of_lt h.2.2.2.2.2.2.2.2)
  injection he7 with e1 e2 e3
  subst e1 e3
  exact ⟨h1, h2, h3⟩
end Go.Proofs.Ytkafoeaffcbheaa
