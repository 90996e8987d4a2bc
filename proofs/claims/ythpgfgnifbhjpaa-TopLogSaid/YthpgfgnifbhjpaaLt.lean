/- The arguments of TopLog, as they come in. -/
import Derived.Test.YthpgfgnifbhjpaaLr
import Derived.ProofKit
import Derived.OpenShut
import Derived.Lib.SmallJoins
import Derived.ChangeArms
namespace Go.Proofs.Ythpgfgnifbhjpaa
open Go.ChangeShapes Go.WideShapes Go.ChangeAt Go.RowKit Go.Joins
set_option linter.unusedVariables false

theorem list_of {α : Type} {Q : Nat → α → Prop} : ∀ n : Nat, (∀ i, i < n → ∃ x, Q i x) → ∃ xs : List α, xs.length = n ∧ ∀ i x, xs[i]? = some x → Q i x
  | 0, _ => ⟨[], rfl, fun i x h => by simp at h⟩
  | n + 1, h => by
    obtain ⟨xs, hl, hq⟩ := list_of n (fun i hi => h i (by omega))
    obtain ⟨y, hy⟩ := h n (by omega)
    refine ⟨xs ++ [y], by simp [hl], fun i x hx => ?_⟩
    by_cases hi : i < xs.length
    · rw [List.getElem?_append_left hi] at hx
      exact hq i x hx
    · rw [List.getElem?_append_right (by omega)] at hx
      have h1 : i - xs.length < 1 := by
        have := (List.getElem?_eq_some_iff.1 hx).1
        simpa using this
      obtain rfl : i = n := by omega
      rw [show i - xs.length = 0 by omega] at hx
      simp only [List.getElem?_cons_zero, Option.some.injEq] at hx
      exact hx ▸ hy

theorem add_plain0 (b off i : Nat) : (⟨b, off, none⟩ : Addr).add i = ⟨b, off + i, none⟩ := by
  unfold Addr.add; split <;> simp_all

section
variable {H : Type} {enc : TypeId × Value → H} {P : Program} {w : World} {base : Nat} {spare : Nat → Bool} {held : Bool}

/-- A slice whose elements are of one cell: each cell, read. -/
theorem each_one {t e : TypeId} (ht : P.underlying t = some (.slice e)) (hc : P.cellsOf e = 1) {fuel : Nat} {v : Value} {x : DataW H × List MemPlace} (h : DataW.trod enc P w base spare held fuel t [v] = some x) :
    ∃ (A : Option Addr) (len c : Nat), v = .slice A len c ∧ len ≤ c ∧ c ≤ maxLen ∧ (0 < len → ∃ b off, A = some ⟨b, off, none⟩ ∧ ∀ i, i < len → ∃ n c0 y, w.cell? ⟨b, off + i, none⟩ = some c0 ∧ DataW.trod enc P w base spare held n e [c0] = some y) := by
  rcases DataW.trod_slice ht h with ⟨hcs, _⟩ | ⟨a, len, cap, elems, rest, n, rfl, hcs, hx, hb, hl, hm, hlen, hel, _⟩
  · simp only [List.cons.injEq, and_true] at hcs
    exact ⟨none, 0, 0, hcs, Nat.le_refl _, by unfold maxLen; omega, fun hp => absurd hp (by omega)⟩
  · simp only [List.cons.injEq, and_true] at hcs
    rw [hc] at hel
    have each : ∀ i, i < len → ∃ n c0 y, w.cell? (a.add i) = some c0 ∧ DataW.trod enc P w base spare held n e [c0] = some y := by
      intro i hi
      have he := hel i hi
      have hi2 : i < elems.length := by omega
      rw [List.getElem?_eq_getElem hi2] at he
      obtain ⟨cs', hcc, hts⟩ := Option.bind_eq_some_iff.1 he
      obtain ⟨_, hcl, hat⟩ := World.cells?_some hcc
      match cs', hcl with
      | [c0], _ =>
        have h0 := hat 0 (by omega)
        simp only [List.getElem?_cons_zero, Nat.mul_one] at h0
        exact ⟨_, c0, _, by simpa [Addr.add_add] using h0, hts⟩
    refine ⟨some a, len, cap, hcs, hl, hm, fun hp => ?_⟩
    obtain ⟨b, off, spot⟩ := a
    have hspot : spot = none := by
      obtain ⟨n0, c0, y, h0, _⟩ := each 0 hp
      have := World.cell?_spot h0
      simpa [Addr.add] using this
    subst hspot
    refine ⟨b, off, rfl, fun i hi => ?_⟩
    obtain ⟨n0, c0, y, h0, h1⟩ := each i hi
    rw [add_plain0] at h0
    exact ⟨n0, c0, y, h0, h1⟩
end
section
variable {H : Type} {enc : TypeId × Value → H} {w : World} {base : Nat} {spare : Nat → Bool} {held : Bool}

theorem open3 {fuel : Nat} {v : Value} {x : DataW H × List MemPlace} (h : DataW.trod enc Try.prog w base spare held fuel 34 [v] = some x) :
    ∃ (A : Option Addr) (xs : List Int) (c : Nat), v = .slice A xs.length c ∧ xs.length ≤ c ∧ c ≤ maxLen ∧ BytesAt w A xs ∧ Bytes xs := by
  obtain ⟨A, len, c, rfl, hl, hm, hc⟩ := each_one Try.underlying34 (by kernel_rfl) h
  by_cases hp : 0 < len
  · obtain ⟨b, off, rfl, hcc⟩ := hc hp
    obtain ⟨xs, hx, hq⟩ := list_of (Q := fun i (n : Int) => w.cell? ⟨b, off + i, none⟩ = some (.int .u8 n) ∧ 0 ≤ n ∧ n < 256) len (fun i hi => by
      obtain ⟨n, c0, y, h0, h1⟩ := hcc i hi
      obtain ⟨m, e0, -, hw⟩ := DataW.trod_int Try.underlying5 h1
      simp only [List.cons.injEq, and_true] at e0
      subst e0
      refine ⟨m, h0, ?_⟩
      simp [Lit.wf, IntKind.min, IntKind.max, IntKind.signed, IntKind.bits] at hw
      omega)
    subst hx
    exact ⟨_, xs, c, rfl, hl, hm, fun _ => ⟨b, off, rfl, trivial, fun i x hx => (hq i x hx).1⟩, fun x hx => by
      obtain ⟨i, hi⟩ := List.mem_iff_getElem?.1 hx
      exact (hq i x hi).2⟩
  · obtain rfl : len = 0 := by omega
    exact ⟨A, [], c, rfl, by simp, hm, fun hp => absurd hp (by simp), fun x hx => by cases hx⟩

theorem open2 {fuel : Nat} {v : Value} {x : DataW H × List MemPlace} (h : DataW.trod enc Try.prog w base spare held fuel 33 [v] = some x) :
    ∃ (A : Option Addr) (ps : List (List Int)) (c : Nat), v = .slice A ps.length c ∧ ps.length ≤ c ∧ c ≤ maxLen ∧ PartsP w (fun _ => True) A ps ∧ ∀ p ∈ ps, Bytes p := by
  obtain ⟨A, len, c, rfl, hl, hm, hc⟩ := each_one Try.underlying33 (by kernel_rfl) h
  by_cases hp : 0 < len
  · obtain ⟨b, off, rfl, hcc⟩ := hc hp
    obtain ⟨ps, hx, hq⟩ := list_of (Q := fun i (p : List Int) => (∃ A' c', w.cell? ⟨b, off + i, none⟩ = some (.slice A' p.length c') ∧ p.length ≤ c' ∧ c' ≤ maxLen ∧ BytesP w (fun _ => True) A' p) ∧ Bytes p) len (fun i hi => by
      obtain ⟨n, c0, y, h0, h1⟩ := hcc i hi
      obtain ⟨A', xs, c', rfl, hl', hm', hB, hby⟩ := open3 h1
      exact ⟨xs, ⟨A', c', h0, hl', hm', hB⟩, hby⟩)
    subst hx
    exact ⟨_, ps, c, rfl, hl, hm, fun _ => ⟨b, off, rfl, trivial, fun i p hp => (hq i p hp).1⟩, fun p hp => by
      obtain ⟨i, hi⟩ := List.mem_iff_getElem?.1 hp
      exact (hq i p hi).2⟩
  · obtain rfl : len = 0 := by omega
    exact ⟨A, [], c, rfl, by simp, hm, fun hp => absurd hp (by simp), fun x hx => by cases hx⟩

theorem open1 {fuel : Nat} {v : Value} {x : DataW H × List MemPlace} (h : DataW.trod enc Try.prog w base spare held fuel 22 [v] = some x) :
    ∃ (A : Option Addr) (ls : List (List (List Int))) (c : Nat), v = .slice A ls.length c ∧ ls.length ≤ c ∧ c ≤ maxLen ∧ ListsP w (fun _ => True) A ls ∧ (∀ l ∈ ls, ∀ p ∈ l, Bytes p) ∧ ∀ l ∈ ls, l.length ≤ maxLen := by
  obtain ⟨A, len, c, rfl, hl, hm, hc⟩ := each_one Try.underlying22 (by kernel_rfl) h
  by_cases hp : 0 < len
  · obtain ⟨b, off, rfl, hcc⟩ := hc hp
    obtain ⟨ls, hx, hq⟩ := list_of (Q := fun i (l : List (List Int)) => (∃ A' c', w.cell? ⟨b, off + i, none⟩ = some (.slice A' l.length c') ∧ PartsP w (fun _ => True) A' l) ∧ (∀ p ∈ l, Bytes p) ∧ l.length ≤ maxLen) len (fun i hi => by
      obtain ⟨n, c0, y, h0, h1⟩ := hcc i hi
      obtain ⟨A', ps, c', rfl, hl', hm', hB, hby⟩ := open2 h1
      exact ⟨ps, ⟨A', c', h0, hB⟩, hby, by omega⟩)
    subst hx
    exact ⟨_, ls, c, rfl, hl, hm, fun _ => ⟨b, off, rfl, trivial, fun i p hp => (hq i p hp).1⟩, fun p hp => by
      obtain ⟨i, hi⟩ := List.mem_iff_getElem?.1 hp
      exact (hq i p hi).2.1, fun p hp => by
      obtain ⟨i, hi⟩ := List.mem_iff_getElem?.1 hp
      exact (hq i p hi).2.2⟩
  · obtain rfl : len = 0 := by omega
    exact ⟨A, [], c, rfl, by simp, hm, fun hp => absurd hp (by simp), (fun x hx => by cases hx), (fun x hx => by cases hx)⟩

theorem openB {fuel : Nat} {v : Value} {x : DataW H × List MemPlace} (h : DataW.trod enc Try.prog w base spare held fuel 23 [v] = some x) :
    ∃ (A : Option Addr) (bs : List Bool) (c : Nat), v = .slice A bs.length c ∧ bs.length ≤ c ∧ c ≤ maxLen ∧ BoolsP w A bs := by
  obtain ⟨A, len, c, rfl, hl, hm, hc⟩ := each_one Try.underlying23 (by kernel_rfl) h
  by_cases hp : 0 < len
  · obtain ⟨b, off, rfl, hcc⟩ := hc hp
    obtain ⟨bs, hx, hq⟩ := list_of (Q := fun i (n : Bool) => w.cell? ⟨b, off + i, none⟩ = some (.bool n)) len (fun i hi => by
      obtain ⟨n, c0, y, h0, h1⟩ := hcc i hi
      obtain ⟨m, e0, -⟩ := DataW.trod_bool Try.underlying4 h1
      simp only [List.cons.injEq, and_true] at e0
      subst e0
      exact ⟨m, h0⟩)
    subst hx
    exact ⟨_, bs, c, rfl, hl, hm, fun _ => ⟨b, off, rfl, fun i x hx => hq i x hx⟩⟩
  · obtain rfl : len = 0 := by omega
    exact ⟨A, [], c, rfl, by simp, hm, fun hp => absurd hp (by simp)⟩
theorem open_lists {r : Reach} {b0 : Nat} {v : Value} {d : DataW H} {p : List MemPlace} (hv : Value.okWide Try.prog w r b0 22 v) (h : DataW.Trod enc Try.prog w base spare held 22 v d p) :
    ∃ (A : Option Addr) (ls : List (List (List Int))) (c : Nat), v = .slice A ls.length c ∧ ls.length ≤ c ∧ c ≤ maxLen ∧ ListsP w (fun _ => True) A ls ∧ (∀ l ∈ ls, ∀ p ∈ l, Bytes p) ∧ ∀ l ∈ ls, l.length ≤ maxLen := by
  obtain ⟨a0, len0, cap0, rfl⟩ := okWide_slice Try.underlying22 hv
  obtain ⟨fuel, hf⟩ := h
  simp only [Value.cells] at hf
  exact open1 hf
theorem open_bools {r : Reach} {b0 : Nat} {v : Value} {d : DataW H} {p : List MemPlace} (hv : Value.okWide Try.prog w r b0 23 v) (h : DataW.Trod enc Try.prog w base spare held 23 v d p) :
    ∃ (A : Option Addr) (bs : List Bool) (c : Nat), v = .slice A bs.length c ∧ bs.length ≤ c ∧ c ≤ maxLen ∧ BoolsP w A bs := by
  obtain ⟨a0, len0, cap0, rfl⟩ := okWide_slice Try.underlying23 hv
  obtain ⟨fuel, hf⟩ := h
  simp only [Value.cells] at hf
  exact openB hf
end
end Go.Proofs.Ythpgfgnifbhjpaa
