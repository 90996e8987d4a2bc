/- TopLog, plain: the records of a list of lists; a crash. -/
import Derived.Test.YthpgfgnifbhjpaaLq
import Derived.Test.YthpgfgnifbhjpaaLo
namespace Go.Proofs.Ythpgfgnifbhjpaa
open Go.RowKit Go.Shelf
set_option linter.unusedVariables false

def recFrom : Nat → List (List (List Int)) → List (Int × List Int)
  | _, [] => []
  | k, l :: ls => (1 + (k : Int), joinF l) :: recFrom (k + 1) ls
theorem recFrom_append : ∀ (a b : List (List (List Int))) (k : Nat), recFrom k (a ++ b) = recFrom k a ++ recFrom (k + a.length) b
  | [], b, k => rfl
  | l :: a, b, k => by
    simp only [List.cons_append, recFrom, recFrom_append a b, List.length_cons]
    rw [show k + 1 + a.length = k + (a.length + 1) by omega]
theorem recFrom_length : ∀ (ls : List (List (List Int))) (k : Nat), (recFrom k ls).length = ls.length
  | [], _ => rfl
  | l :: ls, k => by simp only [recFrom, List.length_cons, recFrom_length ls]
theorem recFrom_get : ∀ (ls : List (List (List Int))) (k i : Nat) (l : List (List Int)), ls[i]? = some l → (recFrom k ls)[i]? = some (1 + (k : Int) + i, joinF l)
  | [], k, i, l, h => by simp at h
  | x :: ls, k, 0, l, h => by
    simp only [List.getElem?_cons_zero, Option.some.injEq] at h
    subst h
    simp [recFrom]
  | x :: ls, k, i + 1, l, h => by
    have := recFrom_get ls (k + 1) i l (by simpa using h)
    simp only [recFrom, List.getElem?_cons_succ, this, Option.some.injEq, Prod.mk.injEq, and_true]
    omega
theorem recFrom_take : ∀ (ls : List (List (List Int))) (k j : Nat), (recFrom k ls).take j = recFrom k (ls.take j)
  | [], k, j => by simp [recFrom]
  | l :: ls, k, 0 => by simp [recFrom]
  | l :: ls, k, j + 1 => by simp only [recFrom, List.take_succ_cons, recFrom_take ls]
def Small (l : List (List Int)) : Prop := l.length ≤ 10 ∧ ∀ p ∈ l, p.length ≤ 60 ∧ Bytes p
theorem small_join {l : List (List Int)} (h : Small l) : (joinF l).length ≤ 620 := by
  have := joinF_len l (fun p hp => (h.2 p hp).1)
  have := h.1
  omega
theorem recFrom_ok : ∀ (ls : List (List (List Int))) (k : Nat), (∀ l ∈ ls, Small l) → k + ls.length ≤ 255 → ∀ r ∈ recFrom k ls, RecOk r
  | [], k, h, hk, r, hr => by cases hr
  | l :: ls, k, h, hk, r, hr => by
    simp only [recFrom, List.mem_cons] at hr
    simp only [List.length_cons] at hk
    rcases hr with rfl | hr
    · have hl := h l (List.mem_cons_self ..)
      have := small_join hl
      exact ⟨by simp only; omega, by simp only; omega, by simp only; omega, joinF_bytes l hl.2⟩
    · exact recFrom_ok ls (k + 1) (fun x hx => h x (List.mem_cons_of_mem _ hx)) (by omega) r hr
theorem recFrom_len : ∀ (ls : List (List (List Int))) (k : Nat), (∀ l ∈ ls, Small l) → (catF (recFrom k ls)).length ≤ 627 * ls.length
  | [], k, h => Nat.le_refl _
  | l :: ls, k, h => by
    have h1 := small_join (h l (List.mem_cons_self ..))
    have h2 := recFrom_len ls (k + 1) (fun x hx => h x (List.mem_cons_of_mem _ hx))
    simp only [recFrom, catF, List.length_append, recF_len, List.length_cons]
    omega

theorem catF_take_le (ls : List (List (List Int))) (s : Nat) : (catF (recFrom 0 (ls.take s))).length ≤ (catF (recFrom 0 ls)).length := by
  have h : catF (recFrom 0 ls) = catF (recFrom 0 (ls.take s)) ++ catF (recFrom (0 + (ls.take s).length) (ls.drop s)) := by
    rw [← catF_append, ← recFrom_append, List.take_append_drop]
  rw [h, List.length_append]
  omega

/-- A front of the records' bytes: some whole records, and less than one; no record that lay whole in the front is lost. -/
theorem crash_law : ∀ (rs : List (Int × List Int)) (m : Nat), m ≤ (catF rs).length → (∀ r ∈ rs, RecOk r) →
    ∃ j tail, j ≤ rs.length ∧ (catF rs).take m = catF (rs.take j) ++ tail ∧ Tail tail ∧ ∀ s, s ≤ rs.length → (catF (rs.take s)).length ≤ m → s ≤ j
  | [], m, hm, h => ⟨0, [], Nat.le_refl _, by simp [catF], .inl (by simp), fun s hs _ => hs⟩
  | r :: rs, m, hm, h => by
    by_cases hlt : m < r.2.length + 7
    · refine ⟨0, (recF r.1 r.2).take m, Nat.zero_le _, ?_, ?_, fun s hs hl => ?_⟩
      · have hl : m - (recF r.1 r.2).length = 0 := by rw [recF_len]; omega
        simp only [catF, List.take_zero, List.nil_append, List.take_append, hl, List.append_nil]
      · have hl : ((recF r.1 r.2).take m).length = m := by rw [List.length_take, recF_len]; omega
        exact .inr ⟨r, h r (List.mem_cons_self ..), by rw [hl]; exact hlt, by rw [hl]⟩
      · cases s with
        | zero => exact Nat.le_refl _
        | succ s =>
          simp only [List.take_succ_cons, catF, List.length_append, recF_len] at hl
          omega
    · simp only [catF, List.length_append, recF_len] at hm
      obtain ⟨j, tail, hj, he, ht, hs⟩ := crash_law rs (m - (r.2.length + 7)) (by omega) (fun x hx => h x (List.mem_cons_of_mem _ hx))
      refine ⟨j + 1, tail, by simp only [List.length_cons]; omega, ?_, ht, fun s hs1 hl => ?_⟩
      · have h1 : (recF r.1 r.2).take m = recF r.1 r.2 := List.take_of_length_le (by rw [recF_len]; omega)
        simp only [catF, List.take_succ_cons, List.take_append, h1, recF_len, he, List.append_assoc]
      · cases s with
        | zero => omega
        | succ s =>
          simp only [List.take_succ_cons, catF, List.length_append, recF_len, List.length_cons] at hl hs1
          have := hs s (by omega) (by omega)
          omega

/-- Lists of texts that a slice holds, in blocks of a set. -/
def ListsP (w : World) (P : Nat → Prop) (A : Option Addr) (ls : List (List (List Int))) : Prop :=
  0 < ls.length → ∃ b off, A = some ⟨b, off, none⟩ ∧ P b ∧ ∀ i l, ls[i]? = some l → ∃ A' c', w.cell? ⟨b, off + i, none⟩ = some (.slice A' l.length c') ∧ PartsP w P A' l
theorem ListsP.keep {w w' : World} {P P' : Nat → Prop} {A : Option Addr} {ls : List (List (List Int))} (h : ListsP w P A ls) (hP : ∀ b, P b → b < w.heap.size → P' b ∧ w'.heap[b]? = w.heap[b]?) : ListsP w' P' A ls := fun hp => by
  obtain ⟨b, off, e, hb, hc⟩ := h hp
  obtain ⟨x0, hx0⟩ : ∃ x0, ls[0]? = some x0 := ⟨ls[0], List.getElem?_eq_getElem hp⟩
  have hlt : b < w.heap.size := by
    obtain ⟨A', c', h0, _⟩ := hc 0 x0 hx0
    exact World.block_lt_of_cell? w _ h0
  obtain ⟨h1, h2⟩ := hP b hb hlt
  refine ⟨b, off, e, h1, fun i l hl => ?_⟩
  obtain ⟨A', c', h0, hB⟩ := hc i l hl
  exact ⟨A', c', (World.cell?_of_block (a := ⟨b, off + i, none⟩) h2).trans h0, hB.keep hP⟩
theorem ListsP.below {w w' : World} {P : Nat → Prop} {A : Option Addr} {ls : List (List (List Int))} (h : ListsP w P A ls) (hb : Below w.heap.size w w') : ListsP w' P A ls :=
  h.keep fun b hp hlt => ⟨hp, hb.block b hlt⟩
/-- Booleans that a slice holds. -/
def BoolsP (w : World) (A : Option Addr) (bs : List Bool) : Prop :=
  0 < bs.length → ∃ b off, A = some ⟨b, off, none⟩ ∧ ∀ i x, bs[i]? = some x → w.cell? ⟨b, off + i, none⟩ = some (.bool x)
theorem BoolsP.below {w w' : World} {A : Option Addr} {bs : List Bool} (h : BoolsP w A bs) (hb : Below w.heap.size w w') : BoolsP w' A bs := fun hp => by
  obtain ⟨b, off, e, hc⟩ := h hp
  exact ⟨b, off, e, fun i x hx => (hb.cell (p := ⟨b, off + i, none⟩) (World.block_lt_of_cell? w _ (hc i x hx))).trans (hc i x hx)⟩
end Go.Proofs.Ythpgfgnifbhjpaa
