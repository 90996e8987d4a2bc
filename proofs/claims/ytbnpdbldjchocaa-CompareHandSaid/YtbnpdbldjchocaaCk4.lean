/- The walks of the laws of chapter 18: CompareAgain, CompareDamage, CompareAsked, CompareHand, case by case. -/
import Derived.Test.YtbnpdbldjchocaaCk2
import Derived.Lib.Hide
namespace Go.Proofs.Ytbnpdbldjchocaa
open Go.RowKit
set_option linter.unusedSimpArgs false
set_option linter.unusedVariables false

theorem learn_no {s o : Int} (h : ¬ (0 ≤ s ∧ s ≤ 7 ∧ (o = 4 ∨ o = 5))) (w : World) :
    Calls Try.prog 9 #[.int .i64 s, .int .i64 o] w fun e w' => e = .returned (.tuple #[.int .i64 0, .bool false, .int .i64 1]) ∧ w = w' := by
  have := learn_any s o w
  rw [show learnF s o = (0, false, 1) by unfold learnF; rw [if_neg h]] at this
  exact this
theorem answer_no {s : Int} (h : ¬ (0 ≤ s ∧ s ≤ 7)) (w : World) :
    Calls Try.prog 11 #[.int .i64 s] w fun e w' => e = .returned (.tuple #[.int .i64 0, .int .i64 1]) ∧ w = w' := by
  have := answer_any s w
  rw [show answerF s = (0, 1) by unfold answerF; rw [if_neg h]] at this
  exact this
theorem decide_no {s : Int} (h : ¬ (0 ≤ s ∧ s ≤ 7)) (c : Bool) (w : World) :
    Calls Try.prog 14 #[.int .i64 s, .bool c] w fun e w' => e = .returned (.tuple #[.int .i64 0, .int .i64 1]) ∧ w = w' := by
  have := decide_any s c w
  rw [show decideF s c = (0, 1) by unfold decideF; rw [if_neg h]] at this
  exact this

set_option maxHeartbeats 4000000 in
theorem walk_CompareAgain (s o : Int) (w : World) :
    Calls Try.prog 6 #[.int .i64 s, .int .i64 o] w fun e w' => e = .returned (.bool true) ∧ Below w.heap.size w w' := by
  by_cases hno : 0 ≤ s ∧ s ≤ 7 ∧ (o = 4 ∨ o = 5)
  · have hs : s = 0 ∨ s = 1 ∨ s = 2 ∨ s = 3 ∨ s = 4 ∨ s = 5 ∨ s = 6 ∨ s = 7 := by omega
    have ho := hno.2.2
    clear hno
    rcases hs with rfl | rfl | rfl | rfl | rfl | rfl | rfl | rfl <;> rcases ho with rfl | rfl
    · have H1 : ∀ w, Calls Try.prog 9 #[.int .i64 0, .int .i64 4] w fun e w' => e = .returned (.tuple #[.int .i64 0, .bool false, .int .i64 0]) ∧ w = w' := fun w => learn_any 0 4 w
      have H2 : ∀ w, Calls Try.prog 9 #[.int .i64 0, .int .i64 4] w fun e w' => e = .returned (.tuple #[.int .i64 0, .bool false, .int .i64 0]) ∧ w = w' := fun w => learn_any 0 4 w
      have H3 : ∀ w, Calls Try.prog 16 #[.int .i64 0] w fun e w' => e = .returned (.bool false) ∧ w = w' := fun w => open_any 0 w
      go_enter Try.func6, Try.ntmps6
      go_wp2_with fail
      refine (H1 _).mono ?_
      rintro e w' ⟨rfl, rfl⟩
      go_wp2_with fail
      refine (H2 _).mono ?_
      rintro e w' ⟨rfl, rfl⟩
      go_wp2_with fail
      refine (alive_any _).mono ?_
      rintro e w1 ⟨rfl, hb1⟩
      go_wp2_with fail
      refine (H3 _).mono ?_
      rintro e w' ⟨rfl, rfl⟩
      go_wp2_with fail
      go_ret
      exact ⟨rfl, hb1⟩
    · have H1 : ∀ w, Calls Try.prog 9 #[.int .i64 0, .int .i64 5] w fun e w' => e = .returned (.tuple #[.int .i64 0, .bool false, .int .i64 0]) ∧ w = w' := fun w => learn_any 0 5 w
      have H2 : ∀ w, Calls Try.prog 9 #[.int .i64 0, .int .i64 5] w fun e w' => e = .returned (.tuple #[.int .i64 0, .bool false, .int .i64 0]) ∧ w = w' := fun w => learn_any 0 5 w
      have H3 : ∀ w, Calls Try.prog 16 #[.int .i64 0] w fun e w' => e = .returned (.bool false) ∧ w = w' := fun w => open_any 0 w
      go_enter Try.func6, Try.ntmps6
      go_wp2_with fail
      refine (H1 _).mono ?_
      rintro e w' ⟨rfl, rfl⟩
      go_wp2_with fail
      refine (H2 _).mono ?_
      rintro e w' ⟨rfl, rfl⟩
      go_wp2_with fail
      refine (alive_any _).mono ?_
      rintro e w1 ⟨rfl, hb1⟩
      go_wp2_with fail
      refine (H3 _).mono ?_
      rintro e w' ⟨rfl, rfl⟩
      go_wp2_with fail
      go_ret
      exact ⟨rfl, hb1⟩
    · have H1 : ∀ w, Calls Try.prog 9 #[.int .i64 1, .int .i64 4] w fun e w' => e = .returned (.tuple #[.int .i64 0, .bool false, .int .i64 7]) ∧ w = w' := fun w => learn_any 1 4 w
      go_enter Try.func6, Try.ntmps6
      go_wp2_with fail
      refine (H1 _).mono ?_
      rintro e w' ⟨rfl, rfl⟩
      go_wp2_with fail
      refine (alive_any _).mono ?_
      rintro e w1 ⟨rfl, hb1⟩
      go_wp2_with fail
      go_ret
      exact ⟨rfl, hb1⟩
    · have H1 : ∀ w, Calls Try.prog 9 #[.int .i64 1, .int .i64 5] w fun e w' => e = .returned (.tuple #[.int .i64 5, .bool false, .int .i64 0]) ∧ w = w' := fun w => learn_any 1 5 w
      have H2 : ∀ w, Calls Try.prog 9 #[.int .i64 5, .int .i64 5] w fun e w' => e = .returned (.tuple #[.int .i64 5, .bool false, .int .i64 0]) ∧ w = w' := fun w => learn_any 5 5 w
      have H3 : ∀ w, Calls Try.prog 16 #[.int .i64 5] w fun e w' => e = .returned (.bool false) ∧ w = w' := fun w => open_any 5 w
      go_enter Try.func6, Try.ntmps6
      go_wp2_with fail
      refine (H1 _).mono ?_
      rintro e w' ⟨rfl, rfl⟩
      go_wp2_with fail
      refine (H2 _).mono ?_
      rintro e w' ⟨rfl, rfl⟩
      go_wp2_with fail
      refine (alive_any _).mono ?_
      rintro e w1 ⟨rfl, hb1⟩
      go_wp2_with fail
      refine (H3 _).mono ?_
      rintro e w' ⟨rfl, rfl⟩
      go_wp2_with fail
      go_ret
      exact ⟨rfl, hb1⟩
    · have H1 : ∀ w, Calls Try.prog 9 #[.int .i64 2, .int .i64 4] w fun e w' => e = .returned (.tuple #[.int .i64 0, .bool false, .int .i64 7]) ∧ w = w' := fun w => learn_any 2 4 w
      go_enter Try.func6, Try.ntmps6
      go_wp2_with fail
      refine (H1 _).mono ?_
      rintro e w' ⟨rfl, rfl⟩
      go_wp2_with fail
      refine (alive_any _).mono ?_
      rintro e w1 ⟨rfl, hb1⟩
      go_wp2_with fail
      go_ret
      exact ⟨rfl, hb1⟩
    · have H1 : ∀ w, Calls Try.prog 9 #[.int .i64 2, .int .i64 5] w fun e w' => e = .returned (.tuple #[.int .i64 5, .bool false, .int .i64 0]) ∧ w = w' := fun w => learn_any 2 5 w
      have H2 : ∀ w, Calls Try.prog 9 #[.int .i64 5, .int .i64 5] w fun e w' => e = .returned (.tuple #[.int .i64 5, .bool false, .int .i64 0]) ∧ w = w' := fun w => learn_any 5 5 w
      have H3 : ∀ w, Calls Try.prog 16 #[.int .i64 5] w fun e w' => e = .returned (.bool false) ∧ w = w' := fun w => open_any 5 w
      go_enter Try.func6, Try.ntmps6
      go_wp2_with fail
      refine (H1 _).mono ?_
      rintro e w' ⟨rfl, rfl⟩
      go_wp2_with fail
      refine (H2 _).mono ?_
      rintro e w' ⟨rfl, rfl⟩
      go_wp2_with fail
      refine (alive_any _).mono ?_
      rintro e w1 ⟨rfl, hb1⟩
      go_wp2_with fail
      refine (H3 _).mono ?_
      rintro e w' ⟨rfl, rfl⟩
      go_wp2_with fail
      go_ret
      exact ⟨rfl, hb1⟩
    · have H1 : ∀ w, Calls Try.prog 9 #[.int .i64 3, .int .i64 4] w fun e w' => e = .returned (.tuple #[.int .i64 4, .bool false, .int .i64 0]) ∧ w = w' := fun w => learn_any 3 4 w
      have H2 : ∀ w, Calls Try.prog 9 #[.int .i64 4, .int .i64 4] w fun e w' => e = .returned (.tuple #[.int .i64 4, .bool false, .int .i64 0]) ∧ w = w' := fun w => learn_any 4 4 w
      have H3 : ∀ w, Calls Try.prog 16 #[.int .i64 4] w fun e w' => e = .returned (.bool false) ∧ w = w' := fun w => open_any 4 w
      go_enter Try.func6, Try.ntmps6
      go_wp2_with fail
      refine (H1 _).mono ?_
      rintro e w' ⟨rfl, rfl⟩
      go_wp2_with fail
      refine (H2 _).mono ?_
      rintro e w' ⟨rfl, rfl⟩
      go_wp2_with fail
      refine (alive_any _).mono ?_
      rintro e w1 ⟨rfl, hb1⟩
      go_wp2_with fail
      refine (H3 _).mono ?_
      rintro e w' ⟨rfl, rfl⟩
      go_wp2_with fail
      go_ret
      exact ⟨rfl, hb1⟩
    · have H1 : ∀ w, Calls Try.prog 9 #[.int .i64 3, .int .i64 5] w fun e w' => e = .returned (.tuple #[.int .i64 5, .bool false, .int .i64 0]) ∧ w = w' := fun w => learn_any 3 5 w
      have H2 : ∀ w, Calls Try.prog 9 #[.int .i64 5, .int .i64 5] w fun e w' => e = .returned (.tuple #[.int .i64 5, .bool false, .int .i64 0]) ∧ w = w' := fun w => learn_any 5 5 w
      have H3 : ∀ w, Calls Try.prog 16 #[.int .i64 5] w fun e w' => e = .returned (.bool false) ∧ w = w' := fun w => open_any 5 w
      go_enter Try.func6, Try.ntmps6
      go_wp2_with fail
      refine (H1 _).mono ?_
      rintro e w' ⟨rfl, rfl⟩
      go_wp2_with fail
      refine (H2 _).mono ?_
      rintro e w' ⟨rfl, rfl⟩
      go_wp2_with fail
      refine (alive_any _).mono ?_
      rintro e w1 ⟨rfl, hb1⟩
      go_wp2_with fail
      refine (H3 _).mono ?_
      rintro e w' ⟨rfl, rfl⟩
      go_wp2_with fail
      go_ret
      exact ⟨rfl, hb1⟩
    · have H1 : ∀ w, Calls Try.prog 9 #[.int .i64 4, .int .i64 4] w fun e w' => e = .returned (.tuple #[.int .i64 4, .bool false, .int .i64 0]) ∧ w = w' := fun w => learn_any 4 4 w
      have H2 : ∀ w, Calls Try.prog 9 #[.int .i64 4, .int .i64 4] w fun e w' => e = .returned (.tuple #[.int .i64 4, .bool false, .int .i64 0]) ∧ w = w' := fun w => learn_any 4 4 w
      have H3 : ∀ w, Calls Try.prog 16 #[.int .i64 4] w fun e w' => e = .returned (.bool false) ∧ w = w' := fun w => open_any 4 w
      go_enter Try.func6, Try.ntmps6
      go_wp2_with fail
      refine (H1 _).mono ?_
      rintro e w' ⟨rfl, rfl⟩
      go_wp2_with fail
      refine (H2 _).mono ?_
      rintro e w' ⟨rfl, rfl⟩
      go_wp2_with fail
      refine (alive_any _).mono ?_
      rintro e w1 ⟨rfl, hb1⟩
      go_wp2_with fail
      refine (H3 _).mono ?_
      rintro e w' ⟨rfl, rfl⟩
      go_wp2_with fail
      go_ret
      exact ⟨rfl, hb1⟩
    · have H1 : ∀ w, Calls Try.prog 9 #[.int .i64 4, .int .i64 5] w fun e w' => e = .returned (.tuple #[.int .i64 4, .bool true, .int .i64 0]) ∧ w = w' := fun w => learn_any 4 5 w
      have H2 : ∀ w, Calls Try.prog 9 #[.int .i64 4, .int .i64 5] w fun e w' => e = .returned (.tuple #[.int .i64 4, .bool true, .int .i64 0]) ∧ w = w' := fun w => learn_any 4 5 w
      have H3 : ∀ w, Calls Try.prog 16 #[.int .i64 4] w fun e w' => e = .returned (.bool false) ∧ w = w' := fun w => open_any 4 w
      go_enter Try.func6, Try.ntmps6
      go_wp2_with fail
      refine (H1 _).mono ?_
      rintro e w' ⟨rfl, rfl⟩
      go_wp2_with fail
      refine (H2 _).mono ?_
      rintro e w' ⟨rfl, rfl⟩
      go_wp2_with fail
      refine (alive_any _).mono ?_
      rintro e w1 ⟨rfl, hb1⟩
      go_wp2_with fail
      refine (H3 _).mono ?_
      rintro e w' ⟨rfl, rfl⟩
      go_wp2_with fail
      go_ret
      exact ⟨rfl, hb1⟩
    · have H1 : ∀ w, Calls Try.prog 9 #[.int .i64 5, .int .i64 4] w fun e w' => e = .returned (.tuple #[.int .i64 5, .bool true, .int .i64 0]) ∧ w = w' := fun w => learn_any 5 4 w
      have H2 : ∀ w, Calls Try.prog 9 #[.int .i64 5, .int .i64 4] w fun e w' => e = .returned (.tuple #[.int .i64 5, .bool true, .int .i64 0]) ∧ w = w' := fun w => learn_any 5 4 w
      have H3 : ∀ w, Calls Try.prog 16 #[.int .i64 5] w fun e w' => e = .returned (.bool false) ∧ w = w' := fun w => open_any 5 w
      go_enter Try.func6, Try.ntmps6
      go_wp2_with fail
      refine (H1 _).mono ?_
      rintro e w' ⟨rfl, rfl⟩
      go_wp2_with fail
      refine (H2 _).mono ?_
      rintro e w' ⟨rfl, rfl⟩
      go_wp2_with fail
      refine (alive_any _).mono ?_
      rintro e w1 ⟨rfl, hb1⟩
      go_wp2_with fail
      refine (H3 _).mono ?_
      rintro e w' ⟨rfl, rfl⟩
      go_wp2_with fail
      go_ret
      exact ⟨rfl, hb1⟩
    · have H1 : ∀ w, Calls Try.prog 9 #[.int .i64 5, .int .i64 5] w fun e w' => e = .returned (.tuple #[.int .i64 5, .bool false, .int .i64 0]) ∧ w = w' := fun w => learn_any 5 5 w
      have H2 : ∀ w, Calls Try.prog 9 #[.int .i64 5, .int .i64 5] w fun e w' => e = .returned (.tuple #[.int .i64 5, .bool false, .int .i64 0]) ∧ w = w' := fun w => learn_any 5 5 w
      have H3 : ∀ w, Calls Try.prog 16 #[.int .i64 5] w fun e w' => e = .returned (.bool false) ∧ w = w' := fun w => open_any 5 w
      go_enter Try.func6, Try.ntmps6
      go_wp2_with fail
      refine (H1 _).mono ?_
      rintro e w' ⟨rfl, rfl⟩
      go_wp2_with fail
      refine (H2 _).mono ?_
      rintro e w' ⟨rfl, rfl⟩
      go_wp2_with fail
      refine (alive_any _).mono ?_
      rintro e w1 ⟨rfl, hb1⟩
      go_wp2_with fail
      refine (H3 _).mono ?_
      rintro e w' ⟨rfl, rfl⟩
      go_wp2_with fail
      go_ret
      exact ⟨rfl, hb1⟩
    · have H1 : ∀ w, Calls Try.prog 9 #[.int .i64 6, .int .i64 4] w fun e w' => e = .returned (.tuple #[.int .i64 4, .bool false, .int .i64 0]) ∧ w = w' := fun w => learn_any 6 4 w
      have H2 : ∀ w, Calls Try.prog 9 #[.int .i64 4, .int .i64 4] w fun e w' => e = .returned (.tuple #[.int .i64 4, .bool false, .int .i64 0]) ∧ w = w' := fun w => learn_any 4 4 w
      have H3 : ∀ w, Calls Try.prog 16 #[.int .i64 4] w fun e w' => e = .returned (.bool false) ∧ w = w' := fun w => open_any 4 w
      go_enter Try.func6, Try.ntmps6
      go_wp2_with fail
      refine (H1 _).mono ?_
      rintro e w' ⟨rfl, rfl⟩
      go_wp2_with fail
      refine (H2 _).mono ?_
      rintro e w' ⟨rfl, rfl⟩
      go_wp2_with fail
      refine (alive_any _).mono ?_
      rintro e w1 ⟨rfl, hb1⟩
      go_wp2_with fail
      refine (H3 _).mono ?_
      rintro e w' ⟨rfl, rfl⟩
      go_wp2_with fail
      go_ret
      exact ⟨rfl, hb1⟩
    · have H1 : ∀ w, Calls Try.prog 9 #[.int .i64 6, .int .i64 5] w fun e w' => e = .returned (.tuple #[.int .i64 4, .bool true, .int .i64 0]) ∧ w = w' := fun w => learn_any 6 5 w
      have H2 : ∀ w, Calls Try.prog 9 #[.int .i64 4, .int .i64 5] w fun e w' => e = .returned (.tuple #[.int .i64 4, .bool true, .int .i64 0]) ∧ w = w' := fun w => learn_any 4 5 w
      have H3 : ∀ w, Calls Try.prog 16 #[.int .i64 4] w fun e w' => e = .returned (.bool false) ∧ w = w' := fun w => open_any 4 w
      go_enter Try.func6, Try.ntmps6
      go_wp2_with fail
      refine (H1 _).mono ?_
      rintro e w' ⟨rfl, rfl⟩
      go_wp2_with fail
      refine (H2 _).mono ?_
      rintro e w' ⟨rfl, rfl⟩
      go_wp2_with fail
      refine (alive_any _).mono ?_
      rintro e w1 ⟨rfl, hb1⟩
      go_wp2_with fail
      refine (H3 _).mono ?_
      rintro e w' ⟨rfl, rfl⟩
      go_wp2_with fail
      go_ret
      exact ⟨rfl, hb1⟩
    · have H1 : ∀ w, Calls Try.prog 9 #[.int .i64 7, .int .i64 4] w fun e w' => e = .returned (.tuple #[.int .i64 5, .bool true, .int .i64 0]) ∧ w = w' := fun w => learn_any 7 4 w
      have H2 : ∀ w, Calls Try.prog 9 #[.int .i64 5, .int .i64 4] w fun e w' => e = .returned (.tuple #[.int .i64 5, .bool true, .int .i64 0]) ∧ w = w' := fun w => learn_any 5 4 w
      have H3 : ∀ w, Calls Try.prog 16 #[.int .i64 5] w fun e w' => e = .returned (.bool false) ∧ w = w' := fun w => open_any 5 w
      go_enter Try.func6, Try.ntmps6
      go_wp2_with fail
      refine (H1 _).mono ?_
      rintro e w' ⟨rfl, rfl⟩
      go_wp2_with fail
      refine (H2 _).mono ?_
      rintro e w' ⟨rfl, rfl⟩
      go_wp2_with fail
      refine (alive_any _).mono ?_
      rintro e w1 ⟨rfl, hb1⟩
      go_wp2_with fail
      refine (H3 _).mono ?_
      rintro e w' ⟨rfl, rfl⟩
      go_wp2_with fail
      go_ret
      exact ⟨rfl, hb1⟩
    · have H1 : ∀ w, Calls Try.prog 9 #[.int .i64 7, .int .i64 5] w fun e w' => e = .returned (.tuple #[.int .i64 5, .bool false, .int .i64 0]) ∧ w = w' := fun w => learn_any 7 5 w
      have H2 : ∀ w, Calls Try.prog 9 #[.int .i64 5, .int .i64 5] w fun e w' => e = .returned (.tuple #[.int .i64 5, .bool false, .int .i64 0]) ∧ w = w' := fun w => learn_any 5 5 w
      have H3 : ∀ w, Calls Try.prog 16 #[.int .i64 5] w fun e w' => e = .returned (.bool false) ∧ w = w' := fun w => open_any 5 w
      go_enter Try.func6, Try.ntmps6
      go_wp2_with fail
      refine (H1 _).mono ?_
      rintro e w' ⟨rfl, rfl⟩
      go_wp2_with fail
      refine (H2 _).mono ?_
      rintro e w' ⟨rfl, rfl⟩
      go_wp2_with fail
      refine (alive_any _).mono ?_
      rintro e w1 ⟨rfl, hb1⟩
      go_wp2_with fail
      refine (H3 _).mono ?_
      rintro e w' ⟨rfl, rfl⟩
      go_wp2_with fail
      go_ret
      exact ⟨rfl, hb1⟩
  · have H1 : ∀ w, Calls Try.prog 9 #[.int .i64 s, .int .i64 o] w fun e w' => e = .returned (.tuple #[.int .i64 0, .bool false, .int .i64 1]) ∧ w = w' := fun w => learn_no hno w
    clear hno
    go_enter Try.func6, Try.ntmps6
    go_wp2_with fail
    refine (H1 _).mono ?_
    rintro e w' ⟨rfl, rfl⟩
    go_wp2_with fail
    refine (alive_any _).mono ?_
    rintro e w1 ⟨rfl, hb1⟩
    go_wp2_with fail
    go_ret
    exact ⟨rfl, hb1⟩

set_option maxHeartbeats 4000000 in
theorem walk_CompareDamage (c : Bool) (o : Int) (w : World) :
    Calls Try.prog 4 #[.bool c, .int .i64 o] w fun e w' => e = .returned (.bool true) ∧ Below w.heap.size w w' := by
  by_cases ho : o = 4 ∨ o = 5
  · rcases ho with rfl | rfl <;> cases c
    · have H1 : ∀ w, Calls Try.prog 14 #[.int .i64 3, .bool false] w fun e w' => e = .returned (.tuple #[.int .i64 7, .int .i64 0]) ∧ w = w' := fun w => decide_any 3 false w
      have H2 : ∀ w, Calls Try.prog 9 #[.int .i64 7, .int .i64 4] w fun e w' => e = .returned (.tuple #[.int .i64 5, .bool true, .int .i64 0]) ∧ w = w' := fun w => learn_any 7 4 w
      have H3 : ∀ w, Calls Try.prog 9 #[.int .i64 3, .int .i64 4] w fun e w' => e = .returned (.tuple #[.int .i64 4, .bool false, .int .i64 0]) ∧ w = w' := fun w => learn_any 3 4 w
      have H4 : ∀ w, Calls Try.prog 9 #[.int .i64 4, .int .i64 4] w fun e w' => e = .returned (.tuple #[.int .i64 4, .bool false, .int .i64 0]) ∧ w = w' := fun w => learn_any 4 4 w
      go_enter Try.func4, Try.ntmps4
      go_wp2_with fail
      refine (H1 _).mono ?_
      rintro e w' ⟨rfl, rfl⟩
      go_wp2_with fail
      refine (H2 _).mono ?_
      rintro e w' ⟨rfl, rfl⟩
      go_wp2_with fail
      refine (H3 _).mono ?_
      rintro e w' ⟨rfl, rfl⟩
      go_wp2_with fail
      refine (H4 _).mono ?_
      rintro e w' ⟨rfl, rfl⟩
      go_wp2_with fail
      refine (alive_any _).mono ?_
      rintro e w1 ⟨rfl, hb1⟩
      go_wp2_with fail
      go_ret
      exact ⟨rfl, hb1⟩
    · have H1 : ∀ w, Calls Try.prog 14 #[.int .i64 3, .bool true] w fun e w' => e = .returned (.tuple #[.int .i64 6, .int .i64 0]) ∧ w = w' := fun w => decide_any 3 true w
      have H2 : ∀ w, Calls Try.prog 9 #[.int .i64 6, .int .i64 4] w fun e w' => e = .returned (.tuple #[.int .i64 4, .bool false, .int .i64 0]) ∧ w = w' := fun w => learn_any 6 4 w
      have H3 : ∀ w, Calls Try.prog 9 #[.int .i64 3, .int .i64 4] w fun e w' => e = .returned (.tuple #[.int .i64 4, .bool false, .int .i64 0]) ∧ w = w' := fun w => learn_any 3 4 w
      have H4 : ∀ w, Calls Try.prog 9 #[.int .i64 4, .int .i64 4] w fun e w' => e = .returned (.tuple #[.int .i64 4, .bool false, .int .i64 0]) ∧ w = w' := fun w => learn_any 4 4 w
      go_enter Try.func4, Try.ntmps4
      go_wp2_with fail
      refine (H1 _).mono ?_
      rintro e w' ⟨rfl, rfl⟩
      go_wp2_with fail
      refine (H2 _).mono ?_
      rintro e w' ⟨rfl, rfl⟩
      go_wp2_with fail
      refine (H3 _).mono ?_
      rintro e w' ⟨rfl, rfl⟩
      go_wp2_with fail
      refine (H4 _).mono ?_
      rintro e w' ⟨rfl, rfl⟩
      go_wp2_with fail
      refine (alive_any _).mono ?_
      rintro e w1 ⟨rfl, hb1⟩
      go_wp2_with fail
      go_ret
      exact ⟨rfl, hb1⟩
    · have H1 : ∀ w, Calls Try.prog 14 #[.int .i64 3, .bool false] w fun e w' => e = .returned (.tuple #[.int .i64 7, .int .i64 0]) ∧ w = w' := fun w => decide_any 3 false w
      have H2 : ∀ w, Calls Try.prog 9 #[.int .i64 7, .int .i64 5] w fun e w' => e = .returned (.tuple #[.int .i64 5, .bool false, .int .i64 0]) ∧ w = w' := fun w => learn_any 7 5 w
      have H3 : ∀ w, Calls Try.prog 9 #[.int .i64 3, .int .i64 5] w fun e w' => e = .returned (.tuple #[.int .i64 5, .bool false, .int .i64 0]) ∧ w = w' := fun w => learn_any 3 5 w
      have H4 : ∀ w, Calls Try.prog 9 #[.int .i64 5, .int .i64 5] w fun e w' => e = .returned (.tuple #[.int .i64 5, .bool false, .int .i64 0]) ∧ w = w' := fun w => learn_any 5 5 w
      go_enter Try.func4, Try.ntmps4
      go_wp2_with fail
      refine (H1 _).mono ?_
      rintro e w' ⟨rfl, rfl⟩
      go_wp2_with fail
      refine (H2 _).mono ?_
      rintro e w' ⟨rfl, rfl⟩
      go_wp2_with fail
      refine (H3 _).mono ?_
      rintro e w' ⟨rfl, rfl⟩
      go_wp2_with fail
      refine (H4 _).mono ?_
      rintro e w' ⟨rfl, rfl⟩
      go_wp2_with fail
      refine (alive_any _).mono ?_
      rintro e w1 ⟨rfl, hb1⟩
      go_wp2_with fail
      go_ret
      exact ⟨rfl, hb1⟩
    · have H1 : ∀ w, Calls Try.prog 14 #[.int .i64 3, .bool true] w fun e w' => e = .returned (.tuple #[.int .i64 6, .int .i64 0]) ∧ w = w' := fun w => decide_any 3 true w
      have H2 : ∀ w, Calls Try.prog 9 #[.int .i64 6, .int .i64 5] w fun e w' => e = .returned (.tuple #[.int .i64 4, .bool true, .int .i64 0]) ∧ w = w' := fun w => learn_any 6 5 w
      have H3 : ∀ w, Calls Try.prog 9 #[.int .i64 3, .int .i64 5] w fun e w' => e = .returned (.tuple #[.int .i64 5, .bool false, .int .i64 0]) ∧ w = w' := fun w => learn_any 3 5 w
      have H4 : ∀ w, Calls Try.prog 9 #[.int .i64 5, .int .i64 5] w fun e w' => e = .returned (.tuple #[.int .i64 5, .bool false, .int .i64 0]) ∧ w = w' := fun w => learn_any 5 5 w
      go_enter Try.func4, Try.ntmps4
      go_wp2_with fail
      refine (H1 _).mono ?_
      rintro e w' ⟨rfl, rfl⟩
      go_wp2_with fail
      refine (H2 _).mono ?_
      rintro e w' ⟨rfl, rfl⟩
      go_wp2_with fail
      refine (H3 _).mono ?_
      rintro e w' ⟨rfl, rfl⟩
      go_wp2_with fail
      refine (H4 _).mono ?_
      rintro e w' ⟨rfl, rfl⟩
      go_wp2_with fail
      refine (alive_any _).mono ?_
      rintro e w1 ⟨rfl, hb1⟩
      go_wp2_with fail
      go_ret
      exact ⟨rfl, hb1⟩
  · have e4 : (o != 4) = true := by simp only [bne_iff_ne, ne_eq]; exact fun h => ho (.inl h)
    have e5 : (o != 5) = true := by simp only [bne_iff_ne, ne_eq]; exact fun h => ho (.inr h)
    clear ho
    go_enter Try.func4, Try.ntmps4
    go_wp2_with fail
    refine (alive_any _).mono ?_
    rintro e w1 ⟨rfl, hb1⟩
    go_wp2_with fail
    go_ret
    exact ⟨rfl, hb1⟩

set_option maxHeartbeats 4000000 in
theorem walk_CompareAsked (s : Int) (w : World) :
    Calls Try.prog 7 #[.int .i64 s] w fun e w' => e = .returned (.bool true) ∧ Below w.heap.size w w' := by
  by_cases hno : 0 ≤ s ∧ s ≤ 7
  · have hs : s = 0 ∨ s = 1 ∨ s = 2 ∨ s = 3 ∨ s = 4 ∨ s = 5 ∨ s = 6 ∨ s = 7 := by omega
    clear hno
    rcases hs with rfl | rfl | rfl | rfl | rfl | rfl | rfl | rfl
    · have H1 : ∀ w, Calls Try.prog 11 #[.int .i64 0] w fun e w' => e = .returned (.tuple #[.int .i64 5, .int .i64 0]) ∧ w = w' := fun w => answer_any 0 w
      have H2 : ∀ w, Calls Try.prog 9 #[.int .i64 3, .int .i64 5] w fun e w' => e = .returned (.tuple #[.int .i64 5, .bool false, .int .i64 0]) ∧ w = w' := fun w => learn_any 3 5 w
      have H3 : ∀ w, Calls Try.prog 9 #[.int .i64 0, .int .i64 5] w fun e w' => e = .returned (.tuple #[.int .i64 0, .bool false, .int .i64 0]) ∧ w = w' := fun w => learn_any 0 5 w
      go_enter Try.func7, Try.ntmps7
      go_wp2_with fail
      refine (H1 _).mono ?_
      rintro e w' ⟨rfl, rfl⟩
      go_wp2_with fail
      refine (H2 _).mono ?_
      rintro e w' ⟨rfl, rfl⟩
      go_wp2_with fail
      refine (H3 _).mono ?_
      rintro e w' ⟨rfl, rfl⟩
      go_wp2_with fail
      refine (alive_any _).mono ?_
      rintro e w1 ⟨rfl, hb1⟩
      go_wp2_with fail
      go_ret
      exact ⟨rfl, hb1⟩
    · have H1 : ∀ w, Calls Try.prog 11 #[.int .i64 1] w fun e w' => e = .returned (.tuple #[.int .i64 0, .int .i64 0]) ∧ w = w' := fun w => answer_any 1 w
      have H2 : ∀ w, Calls Try.prog 16 #[.int .i64 1] w fun e w' => e = .returned (.bool true) ∧ w = w' := fun w => open_any 1 w
      go_enter Try.func7, Try.ntmps7
      go_wp2_with fail
      refine (H1 _).mono ?_
      rintro e w' ⟨rfl, rfl⟩
      go_wp2_with fail
      refine (alive_any _).mono ?_
      rintro e w1 ⟨rfl, hb1⟩
      go_wp2_with fail
      refine (H2 _).mono ?_
      rintro e w' ⟨rfl, rfl⟩
      go_wp2_with fail
      go_ret
      exact ⟨rfl, hb1⟩
    · have H1 : ∀ w, Calls Try.prog 11 #[.int .i64 2] w fun e w' => e = .returned (.tuple #[.int .i64 0, .int .i64 0]) ∧ w = w' := fun w => answer_any 2 w
      have H2 : ∀ w, Calls Try.prog 16 #[.int .i64 2] w fun e w' => e = .returned (.bool true) ∧ w = w' := fun w => open_any 2 w
      go_enter Try.func7, Try.ntmps7
      go_wp2_with fail
      refine (H1 _).mono ?_
      rintro e w' ⟨rfl, rfl⟩
      go_wp2_with fail
      refine (alive_any _).mono ?_
      rintro e w1 ⟨rfl, hb1⟩
      go_wp2_with fail
      refine (H2 _).mono ?_
      rintro e w' ⟨rfl, rfl⟩
      go_wp2_with fail
      go_ret
      exact ⟨rfl, hb1⟩
    · have H1 : ∀ w, Calls Try.prog 11 #[.int .i64 3] w fun e w' => e = .returned (.tuple #[.int .i64 0, .int .i64 0]) ∧ w = w' := fun w => answer_any 3 w
      have H2 : ∀ w, Calls Try.prog 16 #[.int .i64 3] w fun e w' => e = .returned (.bool true) ∧ w = w' := fun w => open_any 3 w
      go_enter Try.func7, Try.ntmps7
      go_wp2_with fail
      refine (H1 _).mono ?_
      rintro e w' ⟨rfl, rfl⟩
      go_wp2_with fail
      refine (alive_any _).mono ?_
      rintro e w1 ⟨rfl, hb1⟩
      go_wp2_with fail
      refine (H2 _).mono ?_
      rintro e w' ⟨rfl, rfl⟩
      go_wp2_with fail
      go_ret
      exact ⟨rfl, hb1⟩
    · have H1 : ∀ w, Calls Try.prog 11 #[.int .i64 4] w fun e w' => e = .returned (.tuple #[.int .i64 4, .int .i64 0]) ∧ w = w' := fun w => answer_any 4 w
      have H2 : ∀ w, Calls Try.prog 9 #[.int .i64 3, .int .i64 4] w fun e w' => e = .returned (.tuple #[.int .i64 4, .bool false, .int .i64 0]) ∧ w = w' := fun w => learn_any 3 4 w
      have H3 : ∀ w, Calls Try.prog 9 #[.int .i64 4, .int .i64 4] w fun e w' => e = .returned (.tuple #[.int .i64 4, .bool false, .int .i64 0]) ∧ w = w' := fun w => learn_any 4 4 w
      go_enter Try.func7, Try.ntmps7
      go_wp2_with fail
      refine (H1 _).mono ?_
      rintro e w' ⟨rfl, rfl⟩
      go_wp2_with fail
      refine (H2 _).mono ?_
      rintro e w' ⟨rfl, rfl⟩
      go_wp2_with fail
      refine (H3 _).mono ?_
      rintro e w' ⟨rfl, rfl⟩
      go_wp2_with fail
      refine (alive_any _).mono ?_
      rintro e w1 ⟨rfl, hb1⟩
      go_wp2_with fail
      go_ret
      exact ⟨rfl, hb1⟩
    · have H1 : ∀ w, Calls Try.prog 11 #[.int .i64 5] w fun e w' => e = .returned (.tuple #[.int .i64 5, .int .i64 0]) ∧ w = w' := fun w => answer_any 5 w
      have H2 : ∀ w, Calls Try.prog 9 #[.int .i64 3, .int .i64 5] w fun e w' => e = .returned (.tuple #[.int .i64 5, .bool false, .int .i64 0]) ∧ w = w' := fun w => learn_any 3 5 w
      have H3 : ∀ w, Calls Try.prog 9 #[.int .i64 5, .int .i64 5] w fun e w' => e = .returned (.tuple #[.int .i64 5, .bool false, .int .i64 0]) ∧ w = w' := fun w => learn_any 5 5 w
      go_enter Try.func7, Try.ntmps7
      go_wp2_with fail
      refine (H1 _).mono ?_
      rintro e w' ⟨rfl, rfl⟩
      go_wp2_with fail
      refine (H2 _).mono ?_
      rintro e w' ⟨rfl, rfl⟩
      go_wp2_with fail
      refine (H3 _).mono ?_
      rintro e w' ⟨rfl, rfl⟩
      go_wp2_with fail
      refine (alive_any _).mono ?_
      rintro e w1 ⟨rfl, hb1⟩
      go_wp2_with fail
      go_ret
      exact ⟨rfl, hb1⟩
    · have H1 : ∀ w, Calls Try.prog 11 #[.int .i64 6] w fun e w' => e = .returned (.tuple #[.int .i64 4, .int .i64 0]) ∧ w = w' := fun w => answer_any 6 w
      have H2 : ∀ w, Calls Try.prog 9 #[.int .i64 3, .int .i64 4] w fun e w' => e = .returned (.tuple #[.int .i64 4, .bool false, .int .i64 0]) ∧ w = w' := fun w => learn_any 3 4 w
      have H3 : ∀ w, Calls Try.prog 9 #[.int .i64 6, .int .i64 4] w fun e w' => e = .returned (.tuple #[.int .i64 4, .bool false, .int .i64 0]) ∧ w = w' := fun w => learn_any 6 4 w
      go_enter Try.func7, Try.ntmps7
      go_wp2_with fail
      refine (H1 _).mono ?_
      rintro e w' ⟨rfl, rfl⟩
      go_wp2_with fail
      refine (H2 _).mono ?_
      rintro e w' ⟨rfl, rfl⟩
      go_wp2_with fail
      refine (H3 _).mono ?_
      rintro e w' ⟨rfl, rfl⟩
      go_wp2_with fail
      refine (alive_any _).mono ?_
      rintro e w1 ⟨rfl, hb1⟩
      go_wp2_with fail
      go_ret
      exact ⟨rfl, hb1⟩
    · have H1 : ∀ w, Calls Try.prog 11 #[.int .i64 7] w fun e w' => e = .returned (.tuple #[.int .i64 5, .int .i64 0]) ∧ w = w' := fun w => answer_any 7 w
      have H2 : ∀ w, Calls Try.prog 9 #[.int .i64 3, .int .i64 5] w fun e w' => e = .returned (.tuple #[.int .i64 5, .bool false, .int .i64 0]) ∧ w = w' := fun w => learn_any 3 5 w
      have H3 : ∀ w, Calls Try.prog 9 #[.int .i64 7, .int .i64 5] w fun e w' => e = .returned (.tuple #[.int .i64 5, .bool false, .int .i64 0]) ∧ w = w' := fun w => learn_any 7 5 w
      go_enter Try.func7, Try.ntmps7
      go_wp2_with fail
      refine (H1 _).mono ?_
      rintro e w' ⟨rfl, rfl⟩
      go_wp2_with fail
      refine (H2 _).mono ?_
      rintro e w' ⟨rfl, rfl⟩
      go_wp2_with fail
      refine (H3 _).mono ?_
      rintro e w' ⟨rfl, rfl⟩
      go_wp2_with fail
      refine (alive_any _).mono ?_
      rintro e w1 ⟨rfl, hb1⟩
      go_wp2_with fail
      go_ret
      exact ⟨rfl, hb1⟩
  · have H1 : ∀ w, Calls Try.prog 11 #[.int .i64 s] w fun e w' => e = .returned (.tuple #[.int .i64 0, .int .i64 1]) ∧ w = w' := fun w => answer_no hno w
    clear hno
    go_enter Try.func7, Try.ntmps7
    go_wp2_with fail
    refine (H1 _).mono ?_
    rintro e w' ⟨rfl, rfl⟩
    go_wp2_with fail
    refine (alive_any _).mono ?_
    rintro e w1 ⟨rfl, hb1⟩
    go_wp2_with fail
    go_ret
    exact ⟨rfl, hb1⟩

set_option maxHeartbeats 4000000 in
theorem walk_CompareHand (s : Int) (c again : Bool) (o : Int) (w : World) :
    Calls Try.prog 8 #[.int .i64 s, .bool c, .bool again, .int .i64 o] w fun e w' => e = .returned (.bool true) ∧ Below w.heap.size w w' := by
  by_cases h3 : s = 3
  · subst h3
    by_cases ho : o = 4 ∨ o = 5
    · rcases ho with rfl | rfl <;> cases c <;> cases again
      · have H1 : ∀ w, Calls Try.prog 14 #[.int .i64 3, .bool false] w fun e w' => e = .returned (.tuple #[.int .i64 7, .int .i64 0]) ∧ w = w' := fun w => decide_any 3 false w
        have H2 : ∀ w, Calls Try.prog 14 #[.int .i64 7, .bool false] w fun e w' => e = .returned (.tuple #[.int .i64 0, .int .i64 7]) ∧ w = w' := fun w => decide_any 7 false w
        have H3 : ∀ w, Calls Try.prog 9 #[.int .i64 7, .int .i64 4] w fun e w' => e = .returned (.tuple #[.int .i64 5, .bool true, .int .i64 0]) ∧ w = w' := fun w => learn_any 7 4 w
        have H4 : ∀ w, Calls Try.prog 11 #[.int .i64 7] w fun e w' => e = .returned (.tuple #[.int .i64 5, .int .i64 0]) ∧ w = w' := fun w => answer_any 7 w
        have H5 : ∀ w, Calls Try.prog 16 #[.int .i64 7] w fun e w' => e = .returned (.bool false) ∧ w = w' := fun w => open_any 7 w
        go_enter Try.func8, Try.ntmps8
        go_wp2_with fail
        refine (H1 _).mono ?_
        rintro e w' ⟨rfl, rfl⟩
        go_wp2_with fail
        refine (H2 _).mono ?_
        rintro e w' ⟨rfl, rfl⟩
        go_wp2_with fail
        refine (H3 _).mono ?_
        rintro e w' ⟨rfl, rfl⟩
        go_wp2_with fail
        refine (H4 _).mono ?_
        rintro e w' ⟨rfl, rfl⟩
        go_wp2_with fail
        refine (alive_any _).mono ?_
        rintro e w1 ⟨rfl, hb1⟩
        go_wp2_with fail
        refine (H5 _).mono ?_
        rintro e w' ⟨rfl, rfl⟩
        go_wp2_with fail
        go_ret
        exact ⟨rfl, hb1⟩
      · have H1 : ∀ w, Calls Try.prog 14 #[.int .i64 3, .bool false] w fun e w' => e = .returned (.tuple #[.int .i64 7, .int .i64 0]) ∧ w = w' := fun w => decide_any 3 false w
        have H2 : ∀ w, Calls Try.prog 14 #[.int .i64 7, .bool true] w fun e w' => e = .returned (.tuple #[.int .i64 0, .int .i64 7]) ∧ w = w' := fun w => decide_any 7 true w
        have H3 : ∀ w, Calls Try.prog 9 #[.int .i64 7, .int .i64 4] w fun e w' => e = .returned (.tuple #[.int .i64 5, .bool true, .int .i64 0]) ∧ w = w' := fun w => learn_any 7 4 w
        have H4 : ∀ w, Calls Try.prog 11 #[.int .i64 7] w fun e w' => e = .returned (.tuple #[.int .i64 5, .int .i64 0]) ∧ w = w' := fun w => answer_any 7 w
        have H5 : ∀ w, Calls Try.prog 16 #[.int .i64 7] w fun e w' => e = .returned (.bool false) ∧ w = w' := fun w => open_any 7 w
        go_enter Try.func8, Try.ntmps8
        go_wp2_with fail
        refine (H1 _).mono ?_
        rintro e w' ⟨rfl, rfl⟩
        go_wp2_with fail
        refine (H2 _).mono ?_
        rintro e w' ⟨rfl, rfl⟩
        go_wp2_with fail
        refine (H3 _).mono ?_
        rintro e w' ⟨rfl, rfl⟩
        go_wp2_with fail
        refine (H4 _).mono ?_
        rintro e w' ⟨rfl, rfl⟩
        go_wp2_with fail
        refine (alive_any _).mono ?_
        rintro e w1 ⟨rfl, hb1⟩
        go_wp2_with fail
        refine (H5 _).mono ?_
        rintro e w' ⟨rfl, rfl⟩
        go_wp2_with fail
        go_ret
        exact ⟨rfl, hb1⟩
      · have H1 : ∀ w, Calls Try.prog 14 #[.int .i64 3, .bool true] w fun e w' => e = .returned (.tuple #[.int .i64 6, .int .i64 0]) ∧ w = w' := fun w => decide_any 3 true w
        have H2 : ∀ w, Calls Try.prog 14 #[.int .i64 6, .bool false] w fun e w' => e = .returned (.tuple #[.int .i64 0, .int .i64 7]) ∧ w = w' := fun w => decide_any 6 false w
        have H3 : ∀ w, Calls Try.prog 9 #[.int .i64 6, .int .i64 4] w fun e w' => e = .returned (.tuple #[.int .i64 4, .bool false, .int .i64 0]) ∧ w = w' := fun w => learn_any 6 4 w
        have H4 : ∀ w, Calls Try.prog 11 #[.int .i64 6] w fun e w' => e = .returned (.tuple #[.int .i64 4, .int .i64 0]) ∧ w = w' := fun w => answer_any 6 w
        have H5 : ∀ w, Calls Try.prog 16 #[.int .i64 6] w fun e w' => e = .returned (.bool false) ∧ w = w' := fun w => open_any 6 w
        go_enter Try.func8, Try.ntmps8
        go_wp2_with fail
        refine (H1 _).mono ?_
        rintro e w' ⟨rfl, rfl⟩
        go_wp2_with fail
        refine (H2 _).mono ?_
        rintro e w' ⟨rfl, rfl⟩
        go_wp2_with fail
        refine (H3 _).mono ?_
        rintro e w' ⟨rfl, rfl⟩
        go_wp2_with fail
        refine (H4 _).mono ?_
        rintro e w' ⟨rfl, rfl⟩
        go_wp2_with fail
        refine (alive_any _).mono ?_
        rintro e w1 ⟨rfl, hb1⟩
        go_wp2_with fail
        refine (H5 _).mono ?_
        rintro e w' ⟨rfl, rfl⟩
        go_wp2_with fail
        go_ret
        exact ⟨rfl, hb1⟩
      · have H1 : ∀ w, Calls Try.prog 14 #[.int .i64 3, .bool true] w fun e w' => e = .returned (.tuple #[.int .i64 6, .int .i64 0]) ∧ w = w' := fun w => decide_any 3 true w
        have H2 : ∀ w, Calls Try.prog 14 #[.int .i64 6, .bool true] w fun e w' => e = .returned (.tuple #[.int .i64 0, .int .i64 7]) ∧ w = w' := fun w => decide_any 6 true w
        have H3 : ∀ w, Calls Try.prog 9 #[.int .i64 6, .int .i64 4] w fun e w' => e = .returned (.tuple #[.int .i64 4, .bool false, .int .i64 0]) ∧ w = w' := fun w => learn_any 6 4 w
        have H4 : ∀ w, Calls Try.prog 11 #[.int .i64 6] w fun e w' => e = .returned (.tuple #[.int .i64 4, .int .i64 0]) ∧ w = w' := fun w => answer_any 6 w
        have H5 : ∀ w, Calls Try.prog 16 #[.int .i64 6] w fun e w' => e = .returned (.bool false) ∧ w = w' := fun w => open_any 6 w
        go_enter Try.func8, Try.ntmps8
        go_wp2_with fail
        refine (H1 _).mono ?_
        rintro e w' ⟨rfl, rfl⟩
        go_wp2_with fail
        refine (H2 _).mono ?_
        rintro e w' ⟨rfl, rfl⟩
        go_wp2_with fail
        refine (H3 _).mono ?_
        rintro e w' ⟨rfl, rfl⟩
        go_wp2_with fail
        refine (H4 _).mono ?_
        rintro e w' ⟨rfl, rfl⟩
        go_wp2_with fail
        refine (alive_any _).mono ?_
        rintro e w1 ⟨rfl, hb1⟩
        go_wp2_with fail
        refine (H5 _).mono ?_
        rintro e w' ⟨rfl, rfl⟩
        go_wp2_with fail
        go_ret
        exact ⟨rfl, hb1⟩
      · have H1 : ∀ w, Calls Try.prog 14 #[.int .i64 3, .bool false] w fun e w' => e = .returned (.tuple #[.int .i64 7, .int .i64 0]) ∧ w = w' := fun w => decide_any 3 false w
        have H2 : ∀ w, Calls Try.prog 14 #[.int .i64 7, .bool false] w fun e w' => e = .returned (.tuple #[.int .i64 0, .int .i64 7]) ∧ w = w' := fun w => decide_any 7 false w
        have H3 : ∀ w, Calls Try.prog 9 #[.int .i64 7, .int .i64 5] w fun e w' => e = .returned (.tuple #[.int .i64 5, .bool false, .int .i64 0]) ∧ w = w' := fun w => learn_any 7 5 w
        have H4 : ∀ w, Calls Try.prog 11 #[.int .i64 7] w fun e w' => e = .returned (.tuple #[.int .i64 5, .int .i64 0]) ∧ w = w' := fun w => answer_any 7 w
        have H5 : ∀ w, Calls Try.prog 16 #[.int .i64 7] w fun e w' => e = .returned (.bool false) ∧ w = w' := fun w => open_any 7 w
        go_enter Try.func8, Try.ntmps8
        go_wp2_with fail
        refine (H1 _).mono ?_
        rintro e w' ⟨rfl, rfl⟩
        go_wp2_with fail
        refine (H2 _).mono ?_
        rintro e w' ⟨rfl, rfl⟩
        go_wp2_with fail
        refine (H3 _).mono ?_
        rintro e w' ⟨rfl, rfl⟩
        go_wp2_with fail
        refine (H4 _).mono ?_
        rintro e w' ⟨rfl, rfl⟩
        go_wp2_with fail
        refine (alive_any _).mono ?_
        rintro e w1 ⟨rfl, hb1⟩
        go_wp2_with fail
        refine (H5 _).mono ?_
        rintro e w' ⟨rfl, rfl⟩
        go_wp2_with fail
        go_ret
        exact ⟨rfl, hb1⟩
      · have H1 : ∀ w, Calls Try.prog 14 #[.int .i64 3, .bool false] w fun e w' => e = .returned (.tuple #[.int .i64 7, .int .i64 0]) ∧ w = w' := fun w => decide_any 3 false w
        have H2 : ∀ w, Calls Try.prog 14 #[.int .i64 7, .bool true] w fun e w' => e = .returned (.tuple #[.int .i64 0, .int .i64 7]) ∧ w = w' := fun w => decide_any 7 true w
        have H3 : ∀ w, Calls Try.prog 9 #[.int .i64 7, .int .i64 5] w fun e w' => e = .returned (.tuple #[.int .i64 5, .bool false, .int .i64 0]) ∧ w = w' := fun w => learn_any 7 5 w
        have H4 : ∀ w, Calls Try.prog 11 #[.int .i64 7] w fun e w' => e = .returned (.tuple #[.int .i64 5, .int .i64 0]) ∧ w = w' := fun w => answer_any 7 w
        have H5 : ∀ w, Calls Try.prog 16 #[.int .i64 7] w fun e w' => e = .returned (.bool false) ∧ w = w' := fun w => open_any 7 w
        go_enter Try.func8, Try.ntmps8
        go_wp2_with fail
        refine (H1 _).mono ?_
        rintro e w' ⟨rfl, rfl⟩
        go_wp2_with fail
        refine (H2 _).mono ?_
        rintro e w' ⟨rfl, rfl⟩
        go_wp2_with fail
        refine (H3 _).mono ?_
        rintro e w' ⟨rfl, rfl⟩
        go_wp2_with fail
        refine (H4 _).mono ?_
        rintro e w' ⟨rfl, rfl⟩
        go_wp2_with fail
        refine (alive_any _).mono ?_
        rintro e w1 ⟨rfl, hb1⟩
        go_wp2_with fail
        refine (H5 _).mono ?_
        rintro e w' ⟨rfl, rfl⟩
        go_wp2_with fail
        go_ret
        exact ⟨rfl, hb1⟩
      · have H1 : ∀ w, Calls Try.prog 14 #[.int .i64 3, .bool true] w fun e w' => e = .returned (.tuple #[.int .i64 6, .int .i64 0]) ∧ w = w' := fun w => decide_any 3 true w
        have H2 : ∀ w, Calls Try.prog 14 #[.int .i64 6, .bool false] w fun e w' => e = .returned (.tuple #[.int .i64 0, .int .i64 7]) ∧ w = w' := fun w => decide_any 6 false w
        have H3 : ∀ w, Calls Try.prog 9 #[.int .i64 6, .int .i64 5] w fun e w' => e = .returned (.tuple #[.int .i64 4, .bool true, .int .i64 0]) ∧ w = w' := fun w => learn_any 6 5 w
        have H4 : ∀ w, Calls Try.prog 11 #[.int .i64 6] w fun e w' => e = .returned (.tuple #[.int .i64 4, .int .i64 0]) ∧ w = w' := fun w => answer_any 6 w
        have H5 : ∀ w, Calls Try.prog 16 #[.int .i64 6] w fun e w' => e = .returned (.bool false) ∧ w = w' := fun w => open_any 6 w
        go_enter Try.func8, Try.ntmps8
        go_wp2_with fail
        refine (H1 _).mono ?_
        rintro e w' ⟨rfl, rfl⟩
        go_wp2_with fail
        refine (H2 _).mono ?_
        rintro e w' ⟨rfl, rfl⟩
        go_wp2_with fail
        refine (H3 _).mono ?_
        rintro e w' ⟨rfl, rfl⟩
        go_wp2_with fail
        refine (H4 _).mono ?_
        rintro e w' ⟨rfl, rfl⟩
        go_wp2_with fail
        refine (alive_any _).mono ?_
        rintro e w1 ⟨rfl, hb1⟩
        go_wp2_with fail
        refine (H5 _).mono ?_
        rintro e w' ⟨rfl, rfl⟩
        go_wp2_with fail
        go_ret
        exact ⟨rfl, hb1⟩
      · have H1 : ∀ w, Calls Try.prog 14 #[.int .i64 3, .bool true] w fun e w' => e = .returned (.tuple #[.int .i64 6, .int .i64 0]) ∧ w = w' := fun w => decide_any 3 true w
        have H2 : ∀ w, Calls Try.prog 14 #[.int .i64 6, .bool true] w fun e w' => e = .returned (.tuple #[.int .i64 0, .int .i64 7]) ∧ w = w' := fun w => decide_any 6 true w
        have H3 : ∀ w, Calls Try.prog 9 #[.int .i64 6, .int .i64 5] w fun e w' => e = .returned (.tuple #[.int .i64 4, .bool true, .int .i64 0]) ∧ w = w' := fun w => learn_any 6 5 w
        have H4 : ∀ w, Calls Try.prog 11 #[.int .i64 6] w fun e w' => e = .returned (.tuple #[.int .i64 4, .int .i64 0]) ∧ w = w' := fun w => answer_any 6 w
        have H5 : ∀ w, Calls Try.prog 16 #[.int .i64 6] w fun e w' => e = .returned (.bool false) ∧ w = w' := fun w => open_any 6 w
        go_enter Try.func8, Try.ntmps8
        go_wp2_with fail
        refine (H1 _).mono ?_
        rintro e w' ⟨rfl, rfl⟩
        go_wp2_with fail
        refine (H2 _).mono ?_
        rintro e w' ⟨rfl, rfl⟩
        go_wp2_with fail
        refine (H3 _).mono ?_
        rintro e w' ⟨rfl, rfl⟩
        go_wp2_with fail
        refine (H4 _).mono ?_
        rintro e w' ⟨rfl, rfl⟩
        go_wp2_with fail
        refine (alive_any _).mono ?_
        rintro e w1 ⟨rfl, hb1⟩
        go_wp2_with fail
        refine (H5 _).mono ?_
        rintro e w' ⟨rfl, rfl⟩
        go_wp2_with fail
        go_ret
        exact ⟨rfl, hb1⟩
    · cases c <;> cases again
      · have hno : ¬ (0 ≤ (7 : Int) ∧ (7 : Int) ≤ 7 ∧ (o = 4 ∨ o = 5)) := fun h => ho h.2.2
        have H1 : ∀ w, Calls Try.prog 14 #[.int .i64 3, .bool false] w fun e w' => e = .returned (.tuple #[.int .i64 7, .int .i64 0]) ∧ w = w' := fun w => decide_any 3 false w
        have H2 : ∀ w, Calls Try.prog 14 #[.int .i64 7, .bool false] w fun e w' => e = .returned (.tuple #[.int .i64 0, .int .i64 7]) ∧ w = w' := fun w => decide_any 7 false w
        have H3 : ∀ w, Calls Try.prog 9 #[.int .i64 7, .int .i64 o] w fun e w' => e = .returned (.tuple #[.int .i64 0, .bool false, .int .i64 1]) ∧ w = w' := fun w => learn_no hno w
        clear hno ho
        go_enter Try.func8, Try.ntmps8
        go_wp2_with fail
        refine (H1 _).mono ?_
        rintro e w' ⟨rfl, rfl⟩
        go_wp2_with fail
        refine (H2 _).mono ?_
        rintro e w' ⟨rfl, rfl⟩
        go_wp2_with fail
        refine (H3 _).mono ?_
        rintro e w' ⟨rfl, rfl⟩
        go_wp2_with fail
        refine (alive_any _).mono ?_
        rintro e w1 ⟨rfl, hb1⟩
        go_wp2_with fail
        go_ret
        exact ⟨rfl, hb1⟩
      · have hno : ¬ (0 ≤ (7 : Int) ∧ (7 : Int) ≤ 7 ∧ (o = 4 ∨ o = 5)) := fun h => ho h.2.2
        have H1 : ∀ w, Calls Try.prog 14 #[.int .i64 3, .bool false] w fun e w' => e = .returned (.tuple #[.int .i64 7, .int .i64 0]) ∧ w = w' := fun w => decide_any 3 false w
        have H2 : ∀ w, Calls Try.prog 14 #[.int .i64 7, .bool true] w fun e w' => e = .returned (.tuple #[.int .i64 0, .int .i64 7]) ∧ w = w' := fun w => decide_any 7 true w
        have H3 : ∀ w, Calls Try.prog 9 #[.int .i64 7, .int .i64 o] w fun e w' => e = .returned (.tuple #[.int .i64 0, .bool false, .int .i64 1]) ∧ w = w' := fun w => learn_no hno w
        clear hno ho
        go_enter Try.func8, Try.ntmps8
        go_wp2_with fail
        refine (H1 _).mono ?_
        rintro e w' ⟨rfl, rfl⟩
        go_wp2_with fail
        refine (H2 _).mono ?_
        rintro e w' ⟨rfl, rfl⟩
        go_wp2_with fail
        refine (H3 _).mono ?_
        rintro e w' ⟨rfl, rfl⟩
        go_wp2_with fail
        refine (alive_any _).mono ?_
        rintro e w1 ⟨rfl, hb1⟩
        go_wp2_with fail
        go_ret
        exact ⟨rfl, hb1⟩
      · have hno : ¬ (0 ≤ (6 : Int) ∧ (6 : Int) ≤ 7 ∧ (o = 4 ∨ o = 5)) := fun h => ho h.2.2
        have H1 : ∀ w, Calls Try.prog 14 #[.int .i64 3, .bool true] w fun e w' => e = .returned (.tuple #[.int .i64 6, .int .i64 0]) ∧ w = w' := fun w => decide_any 3 true w
        have H2 : ∀ w, Calls Try.prog 14 #[.int .i64 6, .bool false] w fun e w' => e = .returned (.tuple #[.int .i64 0, .int .i64 7]) ∧ w = w' := fun w => decide_any 6 false w
        have H3 : ∀ w, Calls Try.prog 9 #[.int .i64 6, .int .i64 o] w fun e w' => e = .returned (.tuple #[.int .i64 0, .bool false, .int .i64 1]) ∧ w = w' := fun w => learn_no hno w
        clear hno ho
        go_enter Try.func8, Try.ntmps8
        go_wp2_with fail
        refine (H1 _).mono ?_
        rintro e w' ⟨rfl, rfl⟩
        go_wp2_with fail
        refine (H2 _).mono ?_
        rintro e w' ⟨rfl, rfl⟩
        go_wp2_with fail
        refine (H3 _).mono ?_
        rintro e w' ⟨rfl, rfl⟩
        go_wp2_with fail
        refine (alive_any _).mono ?_
        rintro e w1 ⟨rfl, hb1⟩
        go_wp2_with fail
        go_ret
        exact ⟨rfl, hb1⟩
      · have hno : ¬ (0 ≤ (6 : Int) ∧ (6 : Int) ≤ 7 ∧ (o = 4 ∨ o = 5)) := fun h => ho h.2.2
        have H1 : ∀ w, Calls Try.prog 14 #[.int .i64 3, .bool true] w fun e w' => e = .returned (.tuple #[.int .i64 6, .int .i64 0]) ∧ w = w' := fun w => decide_any 3 true w
        have H2 : ∀ w, Calls Try.prog 14 #[.int .i64 6, .bool true] w fun e w' => e = .returned (.tuple #[.int .i64 0, .int .i64 7]) ∧ w = w' := fun w => decide_any 6 true w
        have H3 : ∀ w, Calls Try.prog 9 #[.int .i64 6, .int .i64 o] w fun e w' => e = .returned (.tuple #[.int .i64 0, .bool false, .int .i64 1]) ∧ w = w' := fun w => learn_no hno w
        clear hno ho
        go_enter Try.func8, Try.ntmps8
        go_wp2_with fail
        refine (H1 _).mono ?_
        rintro e w' ⟨rfl, rfl⟩
        go_wp2_with fail
        refine (H2 _).mono ?_
        rintro e w' ⟨rfl, rfl⟩
        go_wp2_with fail
        refine (H3 _).mono ?_
        rintro e w' ⟨rfl, rfl⟩
        go_wp2_with fail
        refine (alive_any _).mono ?_
        rintro e w1 ⟨rfl, hb1⟩
        go_wp2_with fail
        go_ret
        exact ⟨rfl, hb1⟩
  · have e3 : (s != 3) = true := by simpa using h3
    by_cases hno : 0 ≤ s ∧ s ≤ 7
    · have H1 : ∀ w, Calls Try.prog 14 #[.int .i64 s, .bool c] w fun e w' => e = .returned (.tuple #[.int .i64 0, .int .i64 7]) ∧ w = w' := fun w => by
        have := decide_any s c w
        rw [show decideF s c = (0, 7) by unfold decideF; rw [if_pos hno, if_neg h3]] at this
        exact this
      clear hno h3
      go_enter Try.func8, Try.ntmps8
      go_wp2_with fail
      refine (H1 _).mono ?_
      rintro e w' ⟨rfl, rfl⟩
      go_wp2_with fail
      refine (alive_any _).mono ?_
      rintro e w1 ⟨rfl, hb1⟩
      go_wp2_with fail
      go_ret
      exact ⟨rfl, hb1⟩
    · have H1 : ∀ w, Calls Try.prog 14 #[.int .i64 s, .bool c] w fun e w' => e = .returned (.tuple #[.int .i64 0, .int .i64 1]) ∧ w = w' := fun w => decide_no hno c w
      clear hno h3
      go_enter Try.func8, Try.ntmps8
      go_wp2_with fail
      refine (H1 _).mono ?_
      rintro e w' ⟨rfl, rfl⟩
      go_wp2_with fail
      refine (alive_any _).mono ?_
      rintro e w1 ⟨rfl, hb1⟩
      go_wp2_with fail
      go_ret
      exact ⟨rfl, hb1⟩
end Go.Proofs.Ytbnpdbldjchocaa
