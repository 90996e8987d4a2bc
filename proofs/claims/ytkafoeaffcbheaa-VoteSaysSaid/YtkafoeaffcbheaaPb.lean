/- Trees in memory whose blocks are of a given set; the walk of the law's own function as. -/
import Derived.Test.YtkafoeaffcbheaaPa
import Derived.Test.YtkafoeaffcbheaaVm
import Derived.Test.YtkafoeaffcbheaaVy
namespace Go.Proofs.Ytkafoeaffcbheaa
open Go.RowKit
set_option linter.unusedVariables false

/-- The kids that a slice holds from place i on, in blocks of a set. -/
def KidsP (w : World) (P : Nat → Prop) : Option Addr → Nat → Fo → Prop
  | _, _, .nil => True
  | A, i, .cons v ks r => (∃ (b off c : Nat) (A' : Option Addr), A = some ⟨b, off, none⟩ ∧ P b ∧ w.cell? ⟨b, off + i * 2, none⟩ = some (.int .i64 v) ∧
      w.cell? ⟨b, off + i * 2 + 1, none⟩ = some (.slice A' ks.len c) ∧ ks.len ≤ c ∧ c ≤ maxLen ∧ KidsP w P A' 0 ks) ∧ KidsP w P A (i + 1) r
theorem KidsP.keep {w w' : World} {P P' : Nat → Prop} (h : ∀ b, P b → P' b ∧ ∀ o, w'.cell? ⟨b, o, none⟩ = w.cell? ⟨b, o, none⟩) :
    ∀ {ks : Fo} {A : Option Addr} {i : Nat}, KidsP w P A i ks → KidsP w' P' A i ks
  | .nil, _, _, _ => trivial
  | .cons _ _ _, _, _, ⟨⟨b, off, c, A', hA, hb, h0, h1, hl, hc, hk⟩, hr⟩ =>
    ⟨⟨b, off, c, A', hA, (h b hb).1, ((h b hb).2 _).trans h0, ((h b hb).2 _).trans h1, hl, hc, KidsP.keep h hk⟩, KidsP.keep h hr⟩
theorem KidsP.at_ {w : World} {P : Nat → Prop} {B : Nat} (hP : ∀ b, P b → b < B) : ∀ {ks : Fo} {A : Option Addr} {i : Nat}, KidsP w P A i ks → KidsAt w B A i ks
  | .nil, _, _, _ => trivial
  | .cons _ _ _, _, _, ⟨⟨b, off, c, A', hA, hb, h0, h1, hl, hc, hk⟩, hr⟩ => ⟨⟨b, off, c, A', hA, hP b hb, h0, h1, hl, hc, hk.at_ hP⟩, hr.at_ hP⟩

/-- The cells of a row of trees, whose kids lie in blocks of a set. -/
def RowP (w : World) (P : Nat → Prop) : Fo → List Value → Prop
  | .nil, xs => xs = []
  | .cons v ks r, xs => ∃ (A' : Option Addr) (c : Nat) (rest : List Value), xs = .int .i64 v :: .slice A' ks.len c :: rest ∧ ks.len ≤ c ∧ c ≤ maxLen ∧ KidsP w P A' 0 ks ∧ RowP w P r rest
theorem RowP.length {w : World} {P : Nat → Prop} : ∀ {ks : Fo} {xs : List Value}, RowP w P ks xs → xs.length = ks.len * 2
  | .nil, xs, h => by rw [show xs = [] from h]; rfl
  | .cons _ _ r, xs, ⟨_, _, rest, hx, _, _, _, hr⟩ => by rw [hx]; simp only [List.length_cons, hr.length, Fo.len]; omega
theorem RowP.keep {w w' : World} {P P' : Nat → Prop} (h : ∀ b, P b → P' b ∧ ∀ o, w'.cell? ⟨b, o, none⟩ = w.cell? ⟨b, o, none⟩) : ∀ {ks : Fo} {xs : List Value}, RowP w P ks xs → RowP w' P' ks xs
  | .nil, _, hr => hr
  | .cons _ _ _, _, ⟨A', c, rest, hx, hl, hc, hk, hr⟩ => ⟨A', c, rest, hx, hl, hc, hk.keep h, RowP.keep h hr⟩
theorem RowP.app {w : World} {P : Nat → Prop} : ∀ {a b : Fo} {xs ys : List Value}, RowP w P a xs → RowP w P b ys → RowP w P (a.app b) (xs ++ ys)
  | .nil, _, xs, _, h, hb => by rw [show xs = [] from h]; exact hb
  | .cons _ _ _, _, _, _, ⟨A', c, rest, hx, hl, hc, hk, hr⟩, hb => ⟨A', c, rest ++ _, by rw [hx]; rfl, hl, hc, hk, hr.app hb⟩
theorem kidsP_of_row {w : World} {P : Nat → Prop} {b off : Nat} (hb : P b) : ∀ {ks : Fo} {xs : List Value} {i : Nat}, RowP w P ks xs → (∀ j u, xs[j]? = some u → w.cell? ⟨b, off + i * 2 + j, none⟩ = some u) → KidsP w P (some ⟨b, off, none⟩) i ks
  | .nil, _, _, _, _ => trivial
  | .cons v ks r, xs, i, ⟨A', c, rest, hx, hl, hc, hk, hr⟩, h => by
    subst hx
    refine ⟨⟨b, off, c, A', rfl, hb, h 0 _ rfl, h 1 _ rfl, hl, hc, hk⟩, kidsP_of_row hb hr fun j u hu => ?_⟩
    have := h (j + 2) u (by simpa using hu)
    rw [show off + i * 2 + (j + 2) = off + (i + 1) * 2 + j by omega] at this
    exact this
theorem kidsP_of_own {w : World} {P : Nat → Prop} {base e n : Nat} {v : Value} {xs : List Value} {ks : Fo} (h : w.ownsRow base e 2 v n xs) (hr : RowP w P ks xs) (hP : ∀ g, v.ownBlock = some g → P g) :
    ∃ A c, v = .slice A ks.len c ∧ ks.len ≤ c ∧ c ≤ maxLen ∧ KidsP w P A 0 ks := by
  have hn : n = ks.len := by have h1 := h.1; have h2 := hr.length; omega
  subst hn
  rcases h.2 with ⟨rfl, h0⟩ | ⟨g, cap, cur, rfl, _, hg, hnc, hcap, _, _⟩
  · cases ks with
    | nil => exact ⟨none, 0, rfl, Nat.le_refl _, by unfold maxLen; omega, trivial⟩
    | cons v ks r => simp [Fo.len] at h0
  · refine ⟨some ⟨g, 0, none⟩, cap, rfl, hnc, hcap, ?_⟩
    refine kidsP_of_row (hP g rfl) hr fun j u hu => ?_
    have hj : j < xs.length := (List.getElem?_eq_some_iff.1 hu).1
    have := h.cellAt j (by rw [← h.1]; exact hj)
    rw [hu] at this
    simpa using this

/-- A row of trees of the call's own: the row lies in blocks from base on, the trees' own rows too, and in none that is the row's. -/
def OwnKids (w : World) (base : Nat) (v : Value) (ks : Fo) (xs : List Value) : Prop :=
  w.ownsRow base 44 2 v ks.len xs ∧ RowP w (fun b => base ≤ b ∧ b < w.heap.size ∧ v.ownBlock ≠ some b) ks xs

theorem OwnKids.nil (w : World) (base : Nat) : OwnKids w base (.slice none 0 0) .nil [] := ⟨World.ownsRow_nil _ _ _ _, rfl⟩
/-- What turns no block from base on that was there keeps it. -/
theorem OwnKids.kept {w w' : World} {base : Nat} {v : Value} {ks : Fo} {xs : List Value} (h : OwnKids w base v ks xs) {row : Option Nat} (hg : w.grownBy w' row) (hr : ∀ g, row = some g → g < base) : OwnKids w' base v ks xs := by
  have hv : v.ownBlock = none ∨ v.ownBlock ≠ row := by
    cases hb : v.ownBlock with
    | none => exact .inl rfl
    | some g =>
      refine .inr fun e => ?_
      have := hr g e.symm
      have := (h.1.lt g hb).1
      omega
  refine ⟨h.1.kept hg hv, h.2.keep fun b hb => ⟨⟨hb.1, Nat.lt_of_lt_of_le hb.2.1 hg.size, hb.2.2⟩, fun o => ?_⟩⟩
  exact World.cell?_of_block (hg.block b hb.2.1 fun e => by have := hr b e.symm; have := hb.1; omega)
theorem OwnKids.alloc {w : World} {base : Nat} {v : Value} {ks : Fo} {xs : List Value} (h : OwnKids w base v ks xs) (o : Obj) : OwnKids (w.alloc o) base v ks xs :=
  h.kept (World.grownBy_alloc w o none) fun g e => by cases e
theorem OwnKids.kids {w : World} {base : Nat} {v : Value} {ks : Fo} {xs : List Value} (h : OwnKids w base v ks xs) :
    ∃ A c, v = .slice A ks.len c ∧ ks.len ≤ c ∧ c ≤ maxLen ∧ KidsP w (fun b => base ≤ b ∧ b < w.heap.size) A 0 ks :=
  kidsP_of_own h.1 (h.2.keep fun b hb => ⟨⟨hb.1, hb.2.1⟩, fun _ => rfl⟩) fun g e => h.1.lt g e

theorem info_refnode : (Try.prog.info? 44).map (fun i => (i.zero, i.size, i.bytes)) = some (some (.agg #[.int .i64 0, .slice none 0 0]), 2, 32) := by kernel_rfl

/-- One tree more, whose own row is younger than the row. -/
theorem wpList_append_tree {w : World} {ops : Array Oper} {rest : List Oper} {o : Oper} {a : Act} {Q : Exit → Act → World → Prop} (hgd : o.guard = none) (s x : Operand)
    (ho : o.op = .call { callee := .builtin .append, args := #[s, x], argTypes := #[42, 42] })
    (base : Nat) (v : Value) (ks : Fo) (xs : List Value) (hs : a.eval s = v) (hown : OwnKids w base v ks xs)
    (B : Nat) (A : Option Addr) (c : Nat) (tv : Int) (kt : Fo) (Ak : Option Addr) (ck : Nat) (hx : a.eval x = .slice A 1 c) (hr : Reads w B 2 A 1 [.int .i64 tv, .slice Ak kt.len ck])
    (hkl : kt.len ≤ ck) (hkc : ck ≤ maxLen) (hk : KidsP w (fun b => base ≤ b ∧ b < w.heap.size ∧ v.ownBlock ≠ some b) Ak 0 kt)
    (hsm : ks.len ≤ 1000) (hbase : base ≤ w.heap.size)
    (h : ∀ v' w' xs', OwnKids w' base v' (ks.app (.cons tv kt .nil)) xs' → Below base w w' → wpList Try.prog ops Q rest (a.put o.dst v') w') : wpList Try.prog ops Q (o :: rest) a w := by
  obtain ⟨i0, hi, hz0, hz1, hz2⟩ := info_parts info_refnode
  refine wpList_append_any w hgd s x _ ho base 44 i0 _ 2 32 Try.underlying42 hi hz0 hz1 hz2 rfl (by omega) v ks.len xs hs hown.1 B A 1 c [.int .i64 tv, .slice Ak kt.len ck] hx hr
    (fun u hu => by simp only [List.mem_cons, List.not_mem_nil, or_false] at hu; rcases hu with rfl | rfl <;> rfl) (by unfold maxLen; omega) (by omega) hbase ?_
  intro v' w' hown' hg hob
  have hb : Below base w w' := (Below.refl _ w).grown hg hbase fun k hk => (hown.1.lt k hk).1
  refine h v' w' (xs ++ [.int .i64 tv, .slice Ak kt.len ck]) ⟨?_, ?_⟩ hb
  · have : (ks.app (.cons tv kt .nil)).len = ks.len + 1 := by rw [len_app]; rfl
    rw [this]; exact hown'
  · have hkeep : ∀ b, (base ≤ b ∧ b < w.heap.size ∧ v.ownBlock ≠ some b) → (base ≤ b ∧ b < w'.heap.size ∧ v'.ownBlock ≠ some b) ∧ ∀ o, w'.cell? ⟨b, o, none⟩ = w.cell? ⟨b, o, none⟩ := fun b hb => by
      refine ⟨⟨hb.1, Nat.lt_of_lt_of_le hb.2.1 hg.size, ?_⟩, fun o => World.cell?_of_block (hg.block b hb.2.1 fun e => hb.2.2 e.symm)⟩
      rcases hob with e | e
      · rw [e]; exact hb.2.2
      · rw [e]; intro e'; injection e' with e'; have := hb.2.1; omega
    exact (hown.2.keep hkeep).app ⟨Ak, ck, [], rfl, hkl, hkc, hk.keep hkeep, rfl⟩
end Go.Proofs.Ytkafoeaffcbheaa
