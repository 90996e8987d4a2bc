/- wal.Read: what the rounds leave, plain. -/
import Derived.Test.YthpgfgnifbhjpaaLi
namespace Go.Proofs.Ythpgfgnifbhjpaa
open Go.RowKit Go.Shelf
set_option linter.unusedVariables false

def lastF (p : Int) (xs : List RIt) : Int := xs.foldl (fun _ x => x.e) p
theorem lastF_snoc (p : Int) (xs : List RIt) (x : RIt) : lastF p (xs ++ [x]) = x.e := by simp [lastF, List.foldl_append]
theorem lastF_ends : ∀ (rs : List (Int × List Int)) (p : Int) (xs : List RIt), xs.map RIt.g = ends p rs → lastF p xs = p + (catF rs).length
  | [], p, xs, h => by
    cases xs with
    | nil => simp [lastF, catF]
    | cons x xs => simp [ends] at h
  | r :: rs, p, xs, h => by
    cases xs with
    | nil => simp [ends] at h
    | cons x xs =>
      simp only [List.map_cons, ends, List.cons.injEq] at h
      obtain ⟨h1, h2⟩ := h
      have he : x.e = p + (r.2.length + 7) := by simpa [RIt.g] using congrArg Prod.fst h1
      have h3 := lastF_ends rs _ xs h2
      have h4 : lastF p (x :: xs) = lastF x.e xs := rfl
      rw [h4, he, h3, catF, List.length_append, recF_len]
      omega

def recVals : List RIt → List Value
  | [] => []
  | x :: xs => .int .i64 x.k :: .slice x.A x.body.length x.c :: recVals xs
theorem recVals_append : ∀ a b : List RIt, recVals (a ++ b) = recVals a ++ recVals b
  | [], _ => rfl
  | x :: a, b => by simp only [List.cons_append, recVals, recVals_append a b]
theorem recVals_get : ∀ (xs : List RIt) (i : Nat) (x : RIt), xs[i]? = some x → (recVals xs)[i * 2]? = some (.int .i64 x.k) ∧ (recVals xs)[i * 2 + 1]? = some (.slice x.A x.body.length x.c)
  | [], i, x, h => by simp at h
  | y :: ys, 0, x, h => by
    simp only [List.getElem?_cons_zero, Option.some.injEq] at h
    subst h
    exact ⟨rfl, rfl⟩
  | y :: ys, i + 1, x, h => by
    have h1 := recVals_get ys i x (by simpa using h)
    rw [show (i + 1) * 2 = i * 2 + 1 + 1 by omega]
    simpa only [recVals, List.getElem?_cons_succ] using h1
theorem recVals_one : ∀ (xs : List RIt), ∀ u ∈ recVals xs, u.oneCell' = true
  | [], u, h => by cases h
  | x :: xs, u, h => by
    simp only [recVals, List.mem_cons] at h
    rcases h with rfl | rfl | h
    · rfl
    · rfl
    · exact recVals_one xs u h

theorem ends_get : ∀ (rs : List (Int × List Int)) (p : Int) (xs : List RIt), xs.map RIt.g = ends p rs → ∀ (i : Nat) (r : Int × List Int), rs[i]? = some r → ∃ x, xs[i]? = some x ∧ x.k = r.1 ∧ x.body = r.2
  | [], p, xs, h, i, r, hr => by simp at hr
  | q :: rs, p, [], h, i, r, hr => by simp [ends] at h
  | q :: rs, p, x :: xs, h, i, r, hr => by
    simp only [List.map_cons, ends, List.cons.injEq] at h
    obtain ⟨h1, h2⟩ := h
    cases i with
    | zero =>
      simp only [List.getElem?_cons_zero, Option.some.injEq] at hr
      subst hr
      simp only [RIt.g, Prod.mk.injEq] at h1
      exact ⟨x, rfl, h1.2.1, h1.2.2⟩
    | succ i =>
      obtain ⟨y, hy, e⟩ := ends_get rs _ xs h2 i r (by simpa using hr)
      exact ⟨y, by simpa using hy, e⟩

/-- A row of records, each with its body at hand, is the records. -/
theorem recs_of_row {W : World} {n₀ : Nat} {sv : Value} {xs : List RIt} {rs : List (Int × List Int)} {p : Int} (hrow : W.ownsRow n₀ 39 2 sv xs.length (recVals xs)) (hV : ∀ x ∈ xs, RIt.V n₀ x W) (hg : xs.map RIt.g = ends p rs) :
    ∃ A c, sv = .slice A rs.length c ∧ rs.length ≤ c ∧ c ≤ maxLen ∧ RecsP W (fun b => n₀ ≤ b) A rs := by
  have hl : xs.length = rs.length := by
    have := congrArg List.length hg
    rw [List.length_map, ends_length] at this
    exact this
  rcases hrow.2 with ⟨rfl, h0⟩ | ⟨g, cap, cur, rfl, hge, hgg, hnc, hcap, _, _⟩
  · exact ⟨none, 0, by rw [← hl, h0], by omega, by unfold maxLen; omega, fun hp => absurd hp (by omega)⟩
  · refine ⟨_, cap, by rw [hl], by omega, hcap, fun hp => ⟨g, 0, rfl, hge, fun i r hr => ?_⟩⟩
    obtain ⟨x, hx, e1, e2⟩ := ends_get rs p xs hg i r hr
    have hi : i < xs.length := (List.getElem?_eq_some_iff.1 hx).1
    obtain ⟨q0, q1⟩ := recVals_get xs i x hx
    have c0 := hrow.cellAt (i * 2) (by omega)
    have c1 := hrow.cellAt (i * 2 + 1) (by omega)
    have hv := hV x (List.mem_of_getElem? hx)
    obtain ⟨A', c', e, hlc, hm, hB⟩ := bytes_of_own (P := fun b => n₀ ≤ b) hv (fun g' hg' => (hv.lt g' hg').1)
    simp only [Value.slice.injEq] at e
    obtain ⟨ea, -, ec⟩ := e
    subst ea ec
    rw [← e1, ← e2]
    exact ⟨x.A, x.c, by rw [Nat.zero_add, c0, q0], by rw [Nat.zero_add, c1, q1], hlc, hm, hB⟩

/-- A row of one kind keeps through a turn of a row of another. -/
theorem own_other {W W' : World} {base base' size size' k k' : Nat} {e e' : TypeId} {v v' : Value} {xs xs' : List Value} (h : W.ownsRow base e size v k xs) (h' : W.ownsRow base' e' size' v' k' xs') (hne : e ≠ e') (hg : W.grownBy W' v'.ownBlock) : W'.ownsRow base e size v k xs := by
  refine h.kept hg ?_
  cases hv : v.ownBlock with
  | none => exact .inl rfl
  | some g =>
    refine .inr fun e1 => ?_
    exact (own_isT h hv).ne (own_isT h' e1.symm) hne rfl
theorem own_turn {W W' : World} {base size k B : Nat} {e : TypeId} {v : Value} {xs : List Value} (h : W.ownsRow base e size v k xs) (ht : Turn B W W') : W'.ownsRow base e size v k xs := by
  obtain ⟨row, hg, hr⟩ := ht
  refine h.kept hg ?_
  cases hv : v.ownBlock with
  | none => exact .inl rfl
  | some g =>
    refine .inr fun e1 => ?_
    obtain ⟨cur, hc⟩ := own_isT h hv
    obtain ⟨-, o, ho, hcc⟩ := hr g e1.symm
    rw [hc] at ho
    cases ho
    cases hcc
theorem boxed_turn {W W' : World} {B b : Nat} {t : TypeId} {v : Value} (h : Boxed W b t v) (ht : Turn B W W') : Boxed W' b t v := by
  obtain ⟨row, hg, hr⟩ := ht
  refine h.kept hg fun e => ?_
  obtain ⟨-, o, ho, hcc⟩ := hr b e.symm
  rw [show W.heap[b]? = _ from h] at ho
  cases ho
  cases hcc
theorem cell_turn {W W' : World} {B b i : Nat} {u : Value} (h : W.cell? ⟨b, i, none⟩ = some u) (ht : Turn B W W') : W'.cell? ⟨b, i, none⟩ = some u := by
  obtain ⟨row, hg, hr⟩ := ht
  refine hg.cell h fun e => ?_
  obtain ⟨-, o, ho, hcc⟩ := hr b e.symm
  unfold World.cell? at h
  simp only [ho] at h
  cases o <;> simp_all [Obj.isCells]
theorem below_turn {n₀ B : Nat} {w W W' : World} (h : Below n₀ w W) (hn : n₀ ≤ w.heap.size) (hB : n₀ ≤ B) (ht : Turn B W W') : Below n₀ w W' := by
  obtain ⟨row, hg, hr⟩ := ht
  exact h.grown hg (Nat.le_trans hn h.size) fun k e => Nat.le_trans hB (hr k e).1
end Go.Proofs.Ythpgfgnifbhjpaa
