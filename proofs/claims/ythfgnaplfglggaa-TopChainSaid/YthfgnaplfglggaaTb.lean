/- What TopChain calls: an exchange of names; the liveness text. -/
import Derived.Test.YthfgnaplfglggaaWk2
import Derived.Test.YthfgnaplfglggaaVo
import Derived.Lib.Hide
namespace Go.Proofs.Ythfgnaplfglggaa
open Go.RowKit
set_option linter.unusedSimpArgs false
set_option linter.unusedVariables false

theorem learn_alive (w : World) :
    Calls Try.prog 19 #[.int .i64 6, .int .i64 5] w fun e w' => e = .returned (.tuple #[.int .i64 4, .bool true, .int .i64 0]) ∧ w = w' := by
  go_enter Try.func19, Try.ntmps19
  go_wp2
  all_goals go_ret3
  all_goals exact ⟨rfl, rfl⟩

theorem leaf_right : rightB 1 .nil = true := by decide
theorem leaf_says : saysT 1 .nil = 1 := by decide

set_option maxHeartbeats 1000000 in
theorem alive09_any (w : World) : Calls Try.prog 18 #[] w fun e w' => e = .returned (.bool true) ∧ Below w.heap.size w w' := by
  have h1 : Calls Try.prog 20 #[.agg #[.int .i64 1, .slice none 0 0]] w fun e W' => e = .returned (.tuple #[.bool true, .int .i64 0]) ∧ Below w.heap.size w W' := by
    have := commits_yes leaf_right (A := none) (c := 0) w (Nat.le_refl _) (by unfold maxLen; omega) trivial
    rw [leaf_says] at this
    exact this
  have h2 := learn_alive w
  have h3 : Calls Try.prog 10 #[.int .u32 1, .int .u32 0, .int .u32 2, .int .u32 0, .bool false] w fun e w' => e = .returned (.tuple #[.int .i64 2, .int .i64 0]) ∧ w = w' := check_any 1 0 2 0 false w
  have H1 := Lib.hid h1; have H2 := Lib.hid h2; have H3 := Lib.hid h3
  clear h1 h2 h3
  go_enter Try.func18, Try.ntmps18
  go_wp2_with (first
    | (go_at_call 10; refine H3.out.mono ?_; rintro e w1 ⟨rfl, rfl⟩)
    | (go_at_call 19; refine H2.out.mono ?_; rintro e w1 ⟨rfl, rfl⟩)
    | (go_at_call 20; refine H1.out.mono ?_; rintro e w2 ⟨rfl, hb2⟩))
  go_ret
  exact ⟨rfl, hb2⟩

theorem bothW_below (m s m' s' x y : Int) (k k' : Bool) (w : World) : Below w.heap.size w (bothW m s m' s' x y k k' w) := by
  unfold bothW
  repeat (first | with_reducible exact Below.refl _ _ | with_reducible refine below_alloc ?_ _ | with_reducible refine below_drew ?_)
theorem afterW_below (m s m' s' n n' x y : Int) (k k' : Bool) (w : World) : Below w.heap.size w (afterW m s m' s' n n' x y k k' w) := by
  unfold afterW
  repeat (first | with_reducible exact Below.refl _ _ | with_reducible refine below_alloc ?_ _ | with_reducible refine below_drew ?_)

/-- An exchange of two sides that have names: without mismatch just if neither remembers a name that the other one does not have any more. -/
theorem after_fits {m s m' s' : Int} (hm : m ≠ 0) (hm' : m' ≠ 0) (hF : (s = 0 ∨ s = m') ∧ (s' = 0 ∨ s' = m)) (w : World) :
    Calls Try.prog 17 #[.agg #[.int .u32 m, .int .u32 s, .bool false], .agg #[.int .u32 m', .int .u32 s', .bool false]] w fun e w' =>
      e = .returned (.tuple #[.agg #[.int .u32 m, .int .u32 m', .bool false], .agg #[.int .u32 m', .int .u32 m, .bool false], .bool true]) ∧ Below w.heap.size w w' := by
  have hB : ∃ x y, bothF m s false m' s' false = (x, y, 0) ∧ badF x = false ∧ badF y = false := by
    obtain ⟨h1, h2⟩ := hF
    rcases h1 with rfl | rfl <;> rcases h2 with rfl | rfl <;> simp [bothF, checkF, badF, hm, hm'] <;> exact ⟨_, _, ⟨rfl, rfl⟩, by omega, by omega⟩
  obtain ⟨x, y, hB, hx, hy⟩ := hB
  exact (after_yes hB hx hy w).mono fun e w' ⟨he, hw⟩ => ⟨he, hw ▸ afterW_below _ _ _ _ _ _ _ _ _ _ _⟩
theorem after_not {m s m' s' : Int} (hm : m ≠ 0) (hm' : m' ≠ 0) (hF : ¬ ((s = 0 ∨ s = m') ∧ (s' = 0 ∨ s' = m))) (w : World) :
    Calls Try.prog 17 #[.agg #[.int .u32 m, .int .u32 s, .bool false], .agg #[.int .u32 m', .int .u32 s', .bool false]] w fun e w' =>
      e = .returned (.tuple #[.agg #[.int .u32 m, .int .u32 s, .bool false], .agg #[.int .u32 m', .int .u32 s', .bool false], .bool false]) ∧ Below w.heap.size w w' := by
  have hB : ∃ x y, bothF m s false m' s' false = (x, y, 0) ∧ (badF x = true ∨ badF y = true) := by
    by_cases h1 : s = 0
    · by_cases h2 : s' = 0
      · exact absurd ⟨.inl h1, .inl h2⟩ hF
      · by_cases h3 : s' = m
        · exact absurd ⟨.inl h1, .inr h3⟩ hF
        · simp [bothF, checkF, badF, hm, hm', h1, h2, h3]; exact ⟨_, _, ⟨rfl, rfl⟩, by omega⟩
    · by_cases h4 : s = m'
      · by_cases h2 : s' = 0
        · exact absurd ⟨.inr h4, .inl h2⟩ hF
        · by_cases h3 : s' = m
          · exact absurd ⟨.inr h4, .inr h3⟩ hF
          · simp [bothF, checkF, badF, hm, hm', h4, h2, h3, h1]; exact ⟨_, _, ⟨rfl, rfl⟩, by omega⟩
      · by_cases h2 : s' ≠ 0 ∧ s' ≠ m <;> simp [bothF, checkF, badF, hm, hm', h1, h4, h2] <;> exact ⟨_, _, ⟨rfl, rfl⟩, by omega⟩
  obtain ⟨x, y, hB, hx⟩ := hB
  exact (after_no hB (.inr hx) w).mono fun e w' ⟨he, hw⟩ => ⟨he, hw ▸ afterW_below _ _ _ _ _ _ _ _ _ _ _⟩
theorem after_exact {m s m' s' : Int} (hm : m ≠ 0) (hm' : m' ≠ 0) : ∃ (F : Bool) (r1 r2 x y : Int), F = ((s == 0 || s == m') && (s' == 0 || s' == m)) ∧ (F = true → r1 = m' ∧ r2 = m) ∧
    ∀ w, Calls Try.prog 17 #[.agg #[.int .u32 m, .int .u32 s, .bool false], .agg #[.int .u32 m', .int .u32 s', .bool false]] w fun e w' =>
      e = .returned (.tuple #[.agg #[.int .u32 m, .int .u32 r1, .bool false], .agg #[.int .u32 m', .int .u32 r2, .bool false], .bool F]) ∧ afterW m s m' s' r1 r2 x y false false w = w' := by
  by_cases hF : (s = 0 ∨ s = m') ∧ (s' = 0 ∨ s' = m)
  · have hB : ∃ x y, bothF m s false m' s' false = (x, y, 0) ∧ badF x = false ∧ badF y = false := by
      obtain ⟨h1, h2⟩ := hF
      rcases h1 with rfl | rfl <;> rcases h2 with rfl | rfl <;> simp [bothF, checkF, badF, hm, hm'] <;> exact ⟨_, _, ⟨rfl, rfl⟩, by omega, by omega⟩
    obtain ⟨x, y, hB, hx, hy⟩ := hB
    exact ⟨true, m', m, x, y, by simp [hF], fun _ => ⟨rfl, rfl⟩, fun w => after_yes hB hx hy w⟩
  · have hB : ∃ x y, bothF m s false m' s' false = (x, y, 0) ∧ (badF x = true ∨ badF y = true) := by
      by_cases h1 : s = 0
      · by_cases h2 : s' = 0
        · exact absurd ⟨.inl h1, .inl h2⟩ hF
        · by_cases h3 : s' = m
          · exact absurd ⟨.inl h1, .inr h3⟩ hF
          · simp [bothF, checkF, badF, hm, hm', h1, h2, h3]; exact ⟨_, _, ⟨rfl, rfl⟩, by omega⟩
      · by_cases h4 : s = m'
        · by_cases h2 : s' = 0
          · exact absurd ⟨.inr h4, .inl h2⟩ hF
          · by_cases h3 : s' = m
            · exact absurd ⟨.inr h4, .inr h3⟩ hF
            · simp [bothF, checkF, badF, hm, hm', h4, h2, h3, h1]; exact ⟨_, _, ⟨rfl, rfl⟩, by omega⟩
        · by_cases h2 : s' ≠ 0 ∧ s' ≠ m <;> simp [bothF, checkF, badF, hm, hm', h1, h4, h2] <;> exact ⟨_, _, ⟨rfl, rfl⟩, by omega⟩
    obtain ⟨x, y, hB, hx⟩ := hB
    refine ⟨false, s, s', x, y, ?_, (fun h => by cases h), fun w => after_no hB (.inr hx) w⟩
    cases h : ((s == 0 || s == m') && (s' == 0 || s' == m))
    · rfl
    · exact absurd (by simpa using h) hF
end Go.Proofs.Ythfgnaplfglggaa
