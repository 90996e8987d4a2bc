/- The walks of the laws NamesNew, NamesCold of chapter 17. -/
import Derived.Test.YthfgnaplfglggaaWk2
namespace Go.Proofs.Ythfgnaplfglggaa
open Go.RowKit

theorem checkF_new (one two : Int) (k : Bool) (h1 : one ≠ 0) (h2 : two ≠ 0) : checkF one 0 two 0 k = (if k = true then 5 else 2, 0) := by
  unfold checkF
  cases k <;> simp [h1, h2]
theorem bothF_new (one two : Int) (k : Bool) (h1 : one ≠ 0) (h2 : two ≠ 0) : bothF one 0 k two 0 false = (if k = true then 5 else 2, 2, 0) := by
  rw [bothF_ok (by rw [checkF_new _ _ _ h1 h2]) (by rw [checkF_new _ _ _ h2 h1]), checkF_new _ _ _ h1 h2, checkF_new _ _ _ h2 h1]
  simp

set_option maxRecDepth 100000 in
set_option maxHeartbeats 1000000 in
theorem walk_NamesNew (one two : Int) (k : Bool) (w : World) :
    Calls Try.prog 4 #[.int .u32 one, .int .u32 two, .bool k] w fun e w' => e = .returned (.bool true) ∧ Below w.heap.size w w' := by
  by_cases h1 : one = 0
  · go_enter Try.func4, Try.ntmps4
    go_wp2_with (go_at_call 12; refine (alive_any _).mono ?_; rintro e w1 ⟨rfl, rfl⟩)
    go_ret
    exact ⟨rfl, (Below.refl _ _).alloc (Nat.le_refl _) _⟩
  by_cases h2 : two = 0
  · go_enter Try.func4, Try.ntmps4
    go_wp2_with (go_at_call 12; refine (alive_any _).mono ?_; rintro e w1 ⟨rfl, rfl⟩)
    go_ret
    exact ⟨rfl, (Below.refl _ _).alloc (Nat.le_refl _) _⟩
  have b1 : (one == 0) = false := by simpa using h1
  have b2 : (two == 0) = false := by simpa using h2
  cases k
  · have H : ∀ w, Calls Try.prog 16 #[.agg #[.int .u32 one, .int .u32 0, .bool false], .agg #[.int .u32 two, .int .u32 0, .bool false]] w fun e w' =>
        e = .returned (.tuple #[.agg #[.int .i64 2, .int .i64 2], .int .i64 0]) ∧ bothW one 0 two 0 2 2 false false w = w' := fun w => by
      have := both_any one 0 two 0 false false w
      rw [bothF_new _ _ _ h1 h2] at this
      exact this
    clear h1 h2
    go_enter Try.func4, Try.ntmps4
    go_wp2_with (first
      | (go_at_call 16; refine (H _).mono ?_; rintro e w' ⟨rfl, rfl⟩; unfold bothW)
      | (go_at_call 12; refine (alive_any _).mono ?_; rintro e w1 ⟨rfl, rfl⟩))
    go_ret
    exact ⟨rfl, by repeat (first | with_reducible exact Below.refl _ _ | with_reducible refine below_alloc ?_ _ | with_reducible refine below_drew ?_)⟩
  · have H : ∀ w, Calls Try.prog 16 #[.agg #[.int .u32 one, .int .u32 0, .bool true], .agg #[.int .u32 two, .int .u32 0, .bool false]] w fun e w' =>
        e = .returned (.tuple #[.agg #[.int .i64 5, .int .i64 2], .int .i64 0]) ∧ bothW one 0 two 0 5 2 true false w = w' := fun w => by
      have := both_any one 0 two 0 true false w
      rw [bothF_new _ _ _ h1 h2] at this
      exact this
    clear h1 h2
    go_enter Try.func4, Try.ntmps4
    go_wp2_with (first
      | (go_at_call 16; refine (H _).mono ?_; rintro e w' ⟨rfl, rfl⟩; unfold bothW)
      | (go_at_call 12; refine (alive_any _).mono ?_; rintro e w1 ⟨rfl, rfl⟩))
    go_ret
    exact ⟨rfl, by repeat (first | with_reducible exact Below.refl _ _ | with_reducible refine below_alloc ?_ _ | with_reducible refine below_drew ?_)⟩

theorem bothF_cold (m t f : Int) (k : Bool) (h1 : m ≠ 0) (h2 : t ≠ 0) (h3 : f ≠ 0) (h4 : f ≠ t) : bothF m t k f 0 false = (3, 4, 0) := by
  have e1 : checkF m t f 0 k = (3, 0) := by unfold checkF; simp [h1, h2, h3, Ne.symm h4]
  have e2 : checkF f 0 m t false = (4, 0) := by unfold checkF; simp [h1, h2, h3, Ne.symm h4]
  rw [bothF_ok (by rw [e1]) (by rw [e2]), e1, e2]

set_option maxRecDepth 100000 in
set_option maxHeartbeats 1000000 in
theorem walk_NamesCold (m t f : Int) (k : Bool) (w : World) :
    Calls Try.prog 6 #[.int .u32 m, .int .u32 t, .int .u32 f, .bool k] w fun e w' => e = .returned (.bool true) ∧ Below w.heap.size w w' := by
  by_cases hq : m = 0 ∨ t = 0 ∨ f = 0 ∨ f = t
  · have hq' : (m == 0) = true ∨ (m == 0) = false ∧ ((t == 0) = true ∨ (t == 0) = false ∧ ((f == 0) = true ∨ (f == 0) = false ∧ (f == t) = true)) := by
      by_cases h1 : m = 0
      · exact .inl (by simpa using h1)
      by_cases h2 : t = 0
      · exact .inr ⟨by simpa using h1, .inl (by simpa using h2)⟩
      by_cases h3 : f = 0
      · exact .inr ⟨by simpa using h1, .inr ⟨by simpa using h2, .inl (by simpa using h3)⟩⟩
      · exact .inr ⟨by simpa using h1, .inr ⟨by simpa using h2, .inr ⟨by simpa using h3, by simpa using (hq.resolve_left h1).resolve_left h2 |>.resolve_left h3⟩⟩⟩
    clear hq
    rcases hq' with h1 | ⟨h1, h2 | ⟨h2, h3 | ⟨h3, h4⟩⟩⟩
    all_goals
      go_enter Try.func6, Try.ntmps6
      go_wp2_with (go_at_call 12; refine (alive_any _).mono ?_; rintro e w1 ⟨rfl, rfl⟩)
      go_ret
      exact ⟨rfl, (Below.refl _ _).alloc (Nat.le_refl _) _⟩
  have h1 : m ≠ 0 := fun h => hq (.inl h)
  have h2 : t ≠ 0 := fun h => hq (.inr (.inl h))
  have h3 : f ≠ 0 := fun h => hq (.inr (.inr (.inl h)))
  have h4 : f ≠ t := fun h => hq (.inr (.inr (.inr h)))
  have H : ∀ w, Calls Try.prog 16 #[.agg #[.int .u32 m, .int .u32 t, .bool k], .agg #[.int .u32 f, .int .u32 0, .bool false]] w fun e w' =>
      e = .returned (.tuple #[.agg #[.int .i64 3, .int .i64 4], .int .i64 0]) ∧ bothW m t f 0 3 4 k false w = w' := fun w => by
    have := both_any m t f 0 k false w
    rw [bothF_cold _ _ _ _ h1 h2 h3 h4] at this
    exact this
  have HA := after_no (bothF_cold m t f k h1 h2 h3 h4) (.inr (.inl rfl))
  have b1 : (m == 0) = false := by simpa using h1
  have b2 : (t == 0) = false := by simpa using h2
  have b3 : (f == 0) = false := by simpa using h3
  have b4 : (f == t) = false := by simpa using h4
  clear h1 h2 h3 h4 hq
  go_enter Try.func6, Try.ntmps6
  go_wp2_with (first
    | (go_at_call 16; refine (H _).mono ?_; rintro e w' ⟨rfl, rfl⟩; unfold bothW)
    | (go_at_call 17; refine (HA _).mono ?_; rintro e w2 ⟨rfl, rfl⟩; unfold afterW)
    | (go_at_call 12; refine (alive_any _).mono ?_; rintro e w1 ⟨rfl, rfl⟩))
  go_ret
  exact ⟨rfl, by repeat (first | with_reducible exact Below.refl _ _ | with_reducible refine below_alloc ?_ _ | with_reducible refine below_drew ?_)⟩
end Go.Proofs.Ythfgnaplfglggaa
