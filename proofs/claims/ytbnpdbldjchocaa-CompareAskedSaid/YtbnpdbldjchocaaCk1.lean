/- The walks of package compare and of its reference: each function as a plain function of numbers. -/
import Derived.Test.YtbnpdbldjchocaaRows
import Derived.Test.YtbnpdbldjchocaaBase
import Derived.WalkKit
import Derived.WalkSpells
import Derived.WalkLawsBesides
import Derived.BigQuiet
import Derived.Deep.QuietTactic
namespace Go.Proofs.Ytbnpdbldjchocaa
open Go.RowKit
set_option linter.unusedSimpArgs false
set_option linter.unusedVariables false

def learnF (s o : Int) : Int × Bool × Int :=
  if 0 ≤ s ∧ s ≤ 7 ∧ (o = 4 ∨ o = 5) then
    if s = 0 then (0, false, 0)
    else if s = 1 ∨ s = 2 then (if o = 4 then (0, false, 7) else (o, false, 0))
    else if s = 3 then (o, false, 0)
    else if s = 4 ∨ s = 6 then (4, o == 5, 0)
    else (5, o == 4, 0)
  else (0, false, 1)
def answerF (s : Int) : Int × Int :=
  if 0 ≤ s ∧ s ≤ 7 then (if s = 4 ∨ s = 6 then (4, 0) else if s = 5 ∨ s = 7 ∨ s = 0 then (5, 0) else (0, 0)) else (0, 1)
def decideF (s : Int) (c : Bool) : Int × Int :=
  if 0 ≤ s ∧ s ≤ 7 then (if s = 3 then (if c = true then (6, 0) else (7, 0)) else (0, 7)) else (0, 1)
def openF (s : Int) : Bool := decide (1 ≤ s) && decide (s ≤ 3)

theorem ret3 {a c x z : Int} {b y : Bool} (h : (x, y, z) = (a, b, c)) : Ending.returned (.tuple #[.int .i64 a, .bool b, .int .i64 c]) = .returned (.tuple #[.int .i64 x, .bool y, .int .i64 z]) := by
  cases h; rfl
theorem ret2 {a b c d : Int} (h : (c, d) = (a, b)) : Ending.returned (.tuple #[.int .i64 a, .int .i64 b]) = .returned (.tuple #[.int .i64 c, .int .i64 d]) := by
  cases h; rfl
theorem ret1 {a b : Bool} (h : b = a) : Ending.returned (.bool a) = .returned (.bool b) := by cases h; rfl

set_option maxHeartbeats 2000000 in
theorem learn_any (s o : Int) (w : World) :
    Calls Try.prog 9 #[.int .i64 s, .int .i64 o] w fun e w' =>
      e = .returned (.tuple #[.int .i64 (learnF s o).1, .bool (learnF s o).2.1, .int .i64 (learnF s o).2.2]) ∧ w = w' := by
  go_enter Try.func9, Try.ntmps9
  go_wp2
  all_goals
    go_ret3
    refine ⟨ret3 ?_, rfl⟩
    try simp only [beq_iff_eq, beq_eq_false_iff_ne, bne_iff_ne, ne_eq, bne_eq_false_iff_eq] at *
    unfold learnF
    repeat' split
    all_goals (first | rfl | (exfalso; omega) | (simp_all; done) | (simp_all; omega))

set_option maxHeartbeats 2000000 in
theorem rlearn_any (s o : Int) (w : World) :
    Calls Try.prog 10 #[.int .i64 s, .int .i64 o] w fun e w' =>
      e = .returned (.tuple #[.int .i64 (learnF s o).1, .bool (learnF s o).2.1, .int .i64 (learnF s o).2.2]) ∧ w = w' := by
  by_cases o4 : o = 4
  · subst o4
    go_enter Try.func10, Try.ntmps10
    go_wp2
    all_goals
      go_ret3
      refine ⟨ret3 ?_, rfl⟩
      try simp only [beq_iff_eq, beq_eq_false_iff_ne, bne_iff_ne, ne_eq, bne_eq_false_iff_eq] at *
      unfold learnF
      repeat' split
      all_goals (first | rfl | (exfalso; omega) | (simp_all; done) | (simp_all; omega))
  by_cases o5 : o = 5
  · subst o5
    go_enter Try.func10, Try.ntmps10
    go_wp2
    all_goals
      go_ret3
      refine ⟨ret3 ?_, rfl⟩
      try simp only [beq_iff_eq, beq_eq_false_iff_ne, bne_iff_ne, ne_eq, bne_eq_false_iff_eq] at *
      unfold learnF
      repeat' split
      all_goals (first | rfl | (exfalso; omega) | (simp_all; done) | (simp_all; omega))
  go_enter Try.func10, Try.ntmps10
  go_wp2
  all_goals
    go_ret3
    refine ⟨ret3 ?_, rfl⟩
    try simp only [beq_iff_eq, beq_eq_false_iff_ne, bne_iff_ne, ne_eq, bne_eq_false_iff_eq] at *
    unfold learnF
    repeat' split
    all_goals (first | rfl | (exfalso; omega) | (simp_all; done) | (simp_all; omega))

set_option maxHeartbeats 2000000 in
theorem answer_any (s : Int) (w : World) :
    Calls Try.prog 11 #[.int .i64 s] w fun e w' =>
      e = .returned (.tuple #[.int .i64 (answerF s).1, .int .i64 (answerF s).2]) ∧ w = w' := by
  go_enter Try.func11, Try.ntmps11
  go_wp2
  all_goals
    go_ret2
    refine ⟨ret2 ?_, rfl⟩
    try simp only [beq_iff_eq, beq_eq_false_iff_ne, bne_iff_ne, ne_eq, bne_eq_false_iff_eq] at *
    unfold answerF
    repeat' split
    all_goals (first | rfl | (exfalso; omega) | (simp_all; done) | (simp_all; omega))

set_option maxHeartbeats 2000000 in
theorem ranswer_any (s : Int) (w : World) :
    Calls Try.prog 12 #[.int .i64 s] w fun e w' =>
      e = .returned (.tuple #[.int .i64 (answerF s).1, .int .i64 (answerF s).2]) ∧ w = w' := by
  go_enter Try.func12, Try.ntmps12
  go_wp2
  all_goals
    go_ret2
    refine ⟨ret2 ?_, rfl⟩
    try simp only [beq_iff_eq, beq_eq_false_iff_ne, bne_iff_ne, ne_eq, bne_eq_false_iff_eq] at *
    unfold answerF
    repeat' split
    all_goals (first | rfl | (exfalso; omega) | (simp_all; done) | (simp_all; omega))

set_option maxHeartbeats 2000000 in
theorem decide_any (s : Int) (c : Bool) (w : World) :
    Calls Try.prog 14 #[.int .i64 s, .bool c] w fun e w' =>
      e = .returned (.tuple #[.int .i64 (decideF s c).1, .int .i64 (decideF s c).2]) ∧ w = w' := by
  go_enter Try.func14, Try.ntmps14
  go_wp2
  all_goals
    go_ret2
    refine ⟨ret2 ?_, rfl⟩
    try simp only [beq_iff_eq, beq_eq_false_iff_ne, bne_iff_ne, ne_eq, bne_eq_false_iff_eq] at *
    unfold decideF
    repeat' split
    all_goals (first | rfl | (exfalso; omega) | (simp_all; done) | (simp_all; omega))

set_option maxHeartbeats 2000000 in
theorem rdecide_any (s : Int) (c : Bool) (w : World) :
    Calls Try.prog 15 #[.int .i64 s, .bool c] w fun e w' =>
      e = .returned (.tuple #[.int .i64 (decideF s c).1, .int .i64 (decideF s c).2]) ∧ w = w' := by
  go_enter Try.func15, Try.ntmps15
  go_wp2
  all_goals
    go_ret2
    refine ⟨ret2 ?_, rfl⟩
    try simp only [beq_iff_eq, beq_eq_false_iff_ne, bne_iff_ne, ne_eq, bne_eq_false_iff_eq] at *
    unfold decideF
    repeat' split
    all_goals (first | rfl | (exfalso; omega) | (simp_all; done) | (simp_all; omega))

set_option maxHeartbeats 1000000 in
theorem open_any (s : Int) (w : World) :
    Calls Try.prog 16 #[.int .i64 s] w fun e w' => e = .returned (.bool (openF s)) ∧ w = w' := by
  go_enter Try.func16, Try.ntmps16
  go_wp2
  all_goals
    go_ret
    refine ⟨ret1 ?_, rfl⟩
    simp_all [openF]
  omega
end Go.Proofs.Ytbnpdbldjchocaa
