/- What TopTold calls besides the votes: Check, Learn, Decide; the liveness text. -/
import Derived.Test.YtkafoeaffcbheaaVx
import Derived.Test.YtkafoeaffcbheaaVq
import Derived.Test.YtkafoeaffcbheaaOi
import Derived.WalkLawsBesides
import Derived.BigQuiet
import Derived.Deep.QuietTactic
namespace Go.Proofs.Ytkafoeaffcbheaa
open Go.RowKit
set_option linter.unusedSimpArgs false
set_option linter.unusedVariables false

def learnF (s o : Int) : Int × Bool × Int :=
  if 0 ≤ s ∧ s ≤ 7 ∧ (o = 4 ∨ o = 5) then
    if s = 0 then (0, false, 0)
    else if s = 1 ∨ s = 2 then (if o = 4 then (0, false, 7) else (o, false, 0))
    else if s = 3 then (o, false, 0)
    else if s = 4 ∨ s = 6 then (4, o == 5, 0)
    else (5, o == 4, 0)
  else (0, false, 1)
def decideF (s : Int) (c : Bool) : Int × Int :=
  if 0 ≤ s ∧ s ≤ 7 then (if s = 3 then (if c = true then (6, 0) else (7, 0)) else (0, 7)) else (0, 1)

theorem ret3 {a c x z : Int} {b y : Bool} (h : (x, y, z) = (a, b, c)) : Ending.returned (.tuple #[.int .i64 a, .bool b, .int .i64 c]) = .returned (.tuple #[.int .i64 x, .bool y, .int .i64 z]) := by
  cases h; rfl
theorem ret2 {a b c d : Int} (h : (c, d) = (a, b)) : Ending.returned (.tuple #[.int .i64 a, .int .i64 b]) = .returned (.tuple #[.int .i64 c, .int .i64 d]) := by
  cases h; rfl

set_option maxHeartbeats 2000000 in
theorem learn_any (s o : Int) (w : World) :
    Calls Try.prog 14 #[.int .i64 s, .int .i64 o] w fun e w' =>
      e = .returned (.tuple #[.int .i64 (learnF s o).1, .bool (learnF s o).2.1, .int .i64 (learnF s o).2.2]) ∧ w = w' := by
  go_enter Try.func14, Try.ntmps14
  go_wp2
  all_goals
    go_ret3
    refine ⟨ret3 ?_, rfl⟩
    try simp only [beq_iff_eq, beq_eq_false_iff_ne, bne_iff_ne, ne_eq, bne_eq_false_iff_eq] at *
    unfold learnF
    repeat' split
    all_goals (first | rfl | (exfalso; omega) | (simp_all; done) | (simp_all; omega))

set_option maxHeartbeats 2000000 in
theorem decide_any (s : Int) (c : Bool) (w : World) :
    Calls Try.prog 13 #[.int .i64 s, .bool c] w fun e w' =>
      e = .returned (.tuple #[.int .i64 (decideF s c).1, .int .i64 (decideF s c).2]) ∧ w = w' := by
  go_enter Try.func13, Try.ntmps13
  go_wp2
  all_goals
    go_ret2
    refine ⟨ret2 ?_, rfl⟩
    try simp only [beq_iff_eq, beq_eq_false_iff_ne, bne_iff_ne, ne_eq, bne_eq_false_iff_eq] at *
    unfold decideF
    repeat' split
    all_goals (first | rfl | (exfalso; omega) | (simp_all; done) | (simp_all; omega))

theorem check_alive (w : World) :
    Calls Try.prog 31 #[.int .u32 1, .int .u32 0, .int .u32 2, .int .u32 0, .bool false] w fun e w' => e = .returned (.tuple #[.int .i64 2, .int .i64 0]) ∧ w = w' := by
  go_enter Try.func31, Try.ntmps31
  go_wp2
  go_ret2
  exact ⟨rfl, rfl⟩

theorem leaf_right : rightB 1 .nil = true := by decide
theorem leaf_says : saysT 1 .nil = 1 := by decide

set_option maxHeartbeats 1000000 in
theorem alive09_any (w : World) : Calls Try.prog 12 #[] w fun e w' => e = .returned (.bool true) ∧ Below w.heap.size w w' := by
  have h1 : Calls Try.prog 10 #[.agg #[.int .i64 1, .slice none 0 0]] w fun e W' => e = .returned (.tuple #[.bool true, .int .i64 0]) ∧ Below w.heap.size w W' := by
    have := commits_yes leaf_right (A := none) (c := 0) w (Nat.le_refl _) (by unfold maxLen; omega) trivial
    rw [leaf_says] at this
    exact this
  have h2 : Calls Try.prog 14 #[.int .i64 6, .int .i64 5] w fun e w' => e = .returned (.tuple #[.int .i64 4, .bool true, .int .i64 0]) ∧ w = w' := learn_any 6 5 w
  have h3 := check_alive w
  have H1 := Lib.hid h1; have H2 := Lib.hid h2; have H3 := Lib.hid h3
  clear h1 h2 h3
  go_enter Try.func12, Try.ntmps12
  go_wp2_with (first
    | (go_at_call 31; refine H3.out.mono ?_; rintro e w1 ⟨rfl, rfl⟩)
    | (go_at_call 14; refine H2.out.mono ?_; rintro e w1 ⟨rfl, rfl⟩)
    | (go_at_call 10; refine H1.out.mono ?_; rintro e w2 ⟨rfl, hb2⟩))
  go_ret
  exact ⟨rfl, hb2⟩
end Go.Proofs.Ytkafoeaffcbheaa
