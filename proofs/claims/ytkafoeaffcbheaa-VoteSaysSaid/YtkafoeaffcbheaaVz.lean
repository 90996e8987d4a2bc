/- Appending trees onto a row of trees of the call's own. -/
import Derived.Test.YtkafoeaffcbheaaVx
import Derived.Test.YtkafoeaffcbheaaVk
namespace Go.Proofs.Ytkafoeaffcbheaa
open Go.RowKit
set_option linter.unusedVariables false

theorem info_node : (Try.prog.info? 24).map (fun i => (i.zero, i.size, i.bytes)) = some (some (.agg #[.int .i64 0, .slice none 0 0]), 2, 32) := by kernel_rfl

section
variable (w : World)

theorem wpList_append_kids {ops : Array Oper} {rest : List Oper} {o : Oper} {a : Act} {Q : Exit → Act → World → Prop} (hgd : o.guard = none) (s x : Operand)
    (ho : o.op = .call { callee := .builtin .append, args := #[s, x], argTypes := #[22, 22] })
    (base B0 : Nat) (v : Value) (ka kb : Fo) (xs ys : List Value) (hs : a.eval s = v) (hown : w.ownsRow base 24 2 v ka.len xs) (hra : RowOf w B0 ka xs)
    (B : Nat) (A : Option Addr) (m c : Nat) (hx : a.eval x = .slice A m c) (hm : m = kb.len) (hr : Reads w B 2 A kb.len ys) (hrb : RowOf w B0 kb ys)
    (hsm : ka.len + kb.len ≤ 200) (hB0 : B0 ≤ base) (hbase : base ≤ w.heap.size)
    (h : ∀ A' c' w', (ka.app kb).len ≤ c' → c' ≤ maxLen → w'.ownsRow base 24 2 (.slice A' (ka.app kb).len c') (ka.app kb).len (xs ++ ys) → RowOf w' B0 (ka.app kb) (xs ++ ys) →
      KidsAt w' w'.heap.size A' 0 (ka.app kb) → Below base w w' → wpList Try.prog ops Q rest (a.put o.dst (.slice A' (ka.app kb).len c')) w') : wpList Try.prog ops Q (o :: rest) a w := by
  subst hm
  obtain ⟨i0, hi, hz0, hz1, hz2⟩ := info_parts info_node
  refine wpList_append_any w hgd s x _ ho base 24 i0 _ 2 32 Try.underlying22 hi hz0 hz1 hz2 rfl (by omega) v ka.len xs hs hown B A kb.len c ys hx hr hrb.one (by unfold maxLen; omega) (by omega) hbase ?_
  intro v' w' hown' hg _
  have hb : Below base w w' := (Below.refl _ w).grown hg hbase fun k hk => (hown.lt k hk).1
  have hk0 : ∀ b o, b < B0 → w'.cell? ⟨b, o, none⟩ = w.cell? ⟨b, o, none⟩ := fun b o hlt => hb.cell (p := ⟨b, o, none⟩) (show b < base by omega)
  have hrow : RowOf w' B0 (ka.app kb) (xs ++ ys) := (hra.keep (Nat.le_refl _) hk0).app (hrb.keep (Nat.le_refl _) hk0)
  rw [← len_app] at hown'
  obtain ⟨A', c', rfl, h1, h2, h3⟩ := kids_of_own hown' hrow (by have := hb.size; omega)
  exact h A' c' w' h1 h2 hown' hrow h3 hb

theorem step_append_kids {ops : Array Oper} {o : Oper} {a : Act} {K : Act → World → Prop} {Q : Exit → Act → World → Prop} {E : Prop} (hgd : o.guard = none) (s x : Operand)
    (ho : o.op = .call { callee := .builtin .append, args := #[s, x], argTypes := #[22, 22] })
    (base B0 : Nat) (v : Value) (ka kb : Fo) (xs ys : List Value) (hs : a.eval s = v) (hown : w.ownsRow base 24 2 v ka.len xs) (hra : RowOf w B0 ka xs)
    (B : Nat) (A : Option Addr) (m c : Nat) (hx : a.eval x = .slice A m c) (hm : m = kb.len) (hr : Reads w B 2 A kb.len ys) (hrb : RowOf w B0 kb ys)
    (hsm : ka.len + kb.len ≤ 200) (hB0 : B0 ≤ base) (hbase : base ≤ w.heap.size)
    (h : ∀ A' c' w', (ka.app kb).len ≤ c' → c' ≤ maxLen → w'.ownsRow base 24 2 (.slice A' (ka.app kb).len c') (ka.app kb).len (xs ++ ys) → RowOf w' B0 (ka.app kb) (xs ++ ys) →
      KidsAt w' w'.heap.size A' 0 (ka.app kb) → Below base w w' → K (a.put o.dst (.slice A' (ka.app kb).len c')) w') :
    if Region.wanted o (yielded ops a.tmps) = true then Oper.wp Try.prog o a w K Q else E := by
  subst hm
  obtain ⟨i0, hi, hz0, hz1, hz2⟩ := info_parts info_node
  refine step_append_any w hgd s x _ ho base 24 i0 _ 2 32 Try.underlying22 hi hz0 hz1 hz2 rfl (by omega) v ka.len xs hs hown B A kb.len c ys hx hr hrb.one (by unfold maxLen; omega) (by omega) hbase ?_
  intro v' w' hown' hg _
  have hb : Below base w w' := (Below.refl _ w).grown hg hbase fun k hk => (hown.lt k hk).1
  have hk0 : ∀ b o, b < B0 → w'.cell? ⟨b, o, none⟩ = w.cell? ⟨b, o, none⟩ := fun b o hlt => hb.cell (p := ⟨b, o, none⟩) (show b < base by omega)
  have hrow : RowOf w' B0 (ka.app kb) (xs ++ ys) := (hra.keep (Nat.le_refl _) hk0).app (hrb.keep (Nat.le_refl _) hk0)
  rw [← len_app] at hown'
  obtain ⟨A', c', rfl, h1, h2, h3⟩ := kids_of_own hown' hrow (by have := hb.size; omega)
  exact h A' c' w' h1 h2 hown' hrow h3 hb
end
end Go.Proofs.Ytkafoeaffcbheaa
