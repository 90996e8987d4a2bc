/- The walks of package compare and of its reference: names of states; what must come of fixed calls. -/
import Derived.Test.YtbnpdbldjchocaaCk1
namespace Go.Proofs.Ytbnpdbldjchocaa
open Go.RowKit
set_option linter.unusedSimpArgs false
set_option linter.unusedVariables false

def nameF (s : Int) : ByteArray :=
  if s = 0 then ⟨#[110, 111, 110, 101]⟩ else if s = 1 then ⟨#[97, 99, 116, 105, 118, 101]⟩ else if s = 2 then ⟨#[112, 101, 110, 100, 105, 110, 103]⟩
  else if s = 3 then ⟨#[100, 111, 117, 98, 116]⟩ else if s = 4 then ⟨#[99, 111, 109, 109, 105, 116, 116, 101, 100]⟩ else if s = 5 then ⟨#[98, 97, 99, 107, 101, 100]⟩
  else if s = 6 then ⟨#[104, 101, 117, 114, 99, 111, 109, 109, 105, 116]⟩ else if s = 7 then ⟨#[104, 101, 117, 114, 98, 97, 99, 107, 111, 117, 116]⟩ else ⟨#[]⟩
theorem nameF_no {s : Int} (h : s < 0 ∨ 7 < s) : nameF s = ⟨#[]⟩ := by
  unfold nameF
  simp (disch := omega) only [if_neg]
theorem ret_string {a b : ByteArray} (h : b = a) : Ending.returned (.string a) = .returned (.string b) := by cases h; rfl

set_option maxHeartbeats 1000000 in
theorem name_any (s : Int) (w : World) :
    Calls Try.prog 17 #[.int .i64 s] w fun e w' => e = .returned (.string (nameF s)) ∧ Below w.heap.size w w' := by
  by_cases h1 : s < 0
  · go_enter Try.func17, Try.ntmps17
    go_wp2
    go_ret
    exact ⟨ret_string (nameF_no (.inl h1)), Below.refl _ _⟩
  by_cases h2 : 7 < s
  · have hd : decide (s ≤ 7) = false := by simpa using h2
    go_enter Try.func17, Try.ntmps17
    go_wp2
    go_ret
    exact ⟨ret_string (nameF_no (.inr h2)), Below.refl _ _⟩
  have h : s = 0 ∨ s = 1 ∨ s = 2 ∨ s = 3 ∨ s = 4 ∨ s = 5 ∨ s = 6 ∨ s = 7 := by omega
  clear h1 h2
  rcases h with rfl | rfl | rfl | rfl | rfl | rfl | rfl | rfl
  · have hi : ∀ w, (Instr.index 36 (.agg #[.string ⟨#[110, 111, 110, 101]⟩, .string ⟨#[97, 99, 116, 105, 118, 101]⟩, .string ⟨#[112, 101, 110, 100, 105, 110, 103]⟩, .string ⟨#[100, 111, 117, 98, 116]⟩, .string ⟨#[99, 111, 109, 109, 105, 116, 116, 101, 100]⟩, .string ⟨#[98, 97, 99, 107, 101, 100]⟩, .string ⟨#[104, 101, 117, 114, 99, 111, 109, 109, 105, 116]⟩, .string ⟨#[104, 101, 117, 114, 98, 97, 99, 107, 111, 117, 116]⟩]) (.int .i64 0)).run Try.prog w = .ok (.string ⟨#[110, 111, 110, 101]⟩) w := fun _ => by kernel_rfl
    go_enter Try.func17, Try.ntmps17
    go_wp2
    go_ret
    exact ⟨rfl, Below.refl _ _⟩
  · have hi : ∀ w, (Instr.index 36 (.agg #[.string ⟨#[110, 111, 110, 101]⟩, .string ⟨#[97, 99, 116, 105, 118, 101]⟩, .string ⟨#[112, 101, 110, 100, 105, 110, 103]⟩, .string ⟨#[100, 111, 117, 98, 116]⟩, .string ⟨#[99, 111, 109, 109, 105, 116, 116, 101, 100]⟩, .string ⟨#[98, 97, 99, 107, 101, 100]⟩, .string ⟨#[104, 101, 117, 114, 99, 111, 109, 109, 105, 116]⟩, .string ⟨#[104, 101, 117, 114, 98, 97, 99, 107, 111, 117, 116]⟩]) (.int .i64 1)).run Try.prog w = .ok (.string ⟨#[97, 99, 116, 105, 118, 101]⟩) w := fun _ => by kernel_rfl
    go_enter Try.func17, Try.ntmps17
    go_wp2
    go_ret
    exact ⟨rfl, Below.refl _ _⟩
  · have hi : ∀ w, (Instr.index 36 (.agg #[.string ⟨#[110, 111, 110, 101]⟩, .string ⟨#[97, 99, 116, 105, 118, 101]⟩, .string ⟨#[112, 101, 110, 100, 105, 110, 103]⟩, .string ⟨#[100, 111, 117, 98, 116]⟩, .string ⟨#[99, 111, 109, 109, 105, 116, 116, 101, 100]⟩, .string ⟨#[98, 97, 99, 107, 101, 100]⟩, .string ⟨#[104, 101, 117, 114, 99, 111, 109, 109, 105, 116]⟩, .string ⟨#[104, 101, 117, 114, 98, 97, 99, 107, 111, 117, 116]⟩]) (.int .i64 2)).run Try.prog w = .ok (.string ⟨#[112, 101, 110, 100, 105, 110, 103]⟩) w := fun _ => by kernel_rfl
    go_enter Try.func17, Try.ntmps17
    go_wp2
    go_ret
    exact ⟨rfl, Below.refl _ _⟩
  · have hi : ∀ w, (Instr.index 36 (.agg #[.string ⟨#[110, 111, 110, 101]⟩, .string ⟨#[97, 99, 116, 105, 118, 101]⟩, .string ⟨#[112, 101, 110, 100, 105, 110, 103]⟩, .string ⟨#[100, 111, 117, 98, 116]⟩, .string ⟨#[99, 111, 109, 109, 105, 116, 116, 101, 100]⟩, .string ⟨#[98, 97, 99, 107, 101, 100]⟩, .string ⟨#[104, 101, 117, 114, 99, 111, 109, 109, 105, 116]⟩, .string ⟨#[104, 101, 117, 114, 98, 97, 99, 107, 111, 117, 116]⟩]) (.int .i64 3)).run Try.prog w = .ok (.string ⟨#[100, 111, 117, 98, 116]⟩) w := fun _ => by kernel_rfl
    go_enter Try.func17, Try.ntmps17
    go_wp2
    go_ret
    exact ⟨rfl, Below.refl _ _⟩
  · have hi : ∀ w, (Instr.index 36 (.agg #[.string ⟨#[110, 111, 110, 101]⟩, .string ⟨#[97, 99, 116, 105, 118, 101]⟩, .string ⟨#[112, 101, 110, 100, 105, 110, 103]⟩, .string ⟨#[100, 111, 117, 98, 116]⟩, .string ⟨#[99, 111, 109, 109, 105, 116, 116, 101, 100]⟩, .string ⟨#[98, 97, 99, 107, 101, 100]⟩, .string ⟨#[104, 101, 117, 114, 99, 111, 109, 109, 105, 116]⟩, .string ⟨#[104, 101, 117, 114, 98, 97, 99, 107, 111, 117, 116]⟩]) (.int .i64 4)).run Try.prog w = .ok (.string ⟨#[99, 111, 109, 109, 105, 116, 116, 101, 100]⟩) w := fun _ => by kernel_rfl
    go_enter Try.func17, Try.ntmps17
    go_wp2
    go_ret
    exact ⟨rfl, Below.refl _ _⟩
  · have hi : ∀ w, (Instr.index 36 (.agg #[.string ⟨#[110, 111, 110, 101]⟩, .string ⟨#[97, 99, 116, 105, 118, 101]⟩, .string ⟨#[112, 101, 110, 100, 105, 110, 103]⟩, .string ⟨#[100, 111, 117, 98, 116]⟩, .string ⟨#[99, 111, 109, 109, 105, 116, 116, 101, 100]⟩, .string ⟨#[98, 97, 99, 107, 101, 100]⟩, .string ⟨#[104, 101, 117, 114, 99, 111, 109, 109, 105, 116]⟩, .string ⟨#[104, 101, 117, 114, 98, 97, 99, 107, 111, 117, 116]⟩]) (.int .i64 5)).run Try.prog w = .ok (.string ⟨#[98, 97, 99, 107, 101, 100]⟩) w := fun _ => by kernel_rfl
    go_enter Try.func17, Try.ntmps17
    go_wp2
    go_ret
    exact ⟨rfl, Below.refl _ _⟩
  · have hi : ∀ w, (Instr.index 36 (.agg #[.string ⟨#[110, 111, 110, 101]⟩, .string ⟨#[97, 99, 116, 105, 118, 101]⟩, .string ⟨#[112, 101, 110, 100, 105, 110, 103]⟩, .string ⟨#[100, 111, 117, 98, 116]⟩, .string ⟨#[99, 111, 109, 109, 105, 116, 116, 101, 100]⟩, .string ⟨#[98, 97, 99, 107, 101, 100]⟩, .string ⟨#[104, 101, 117, 114, 99, 111, 109, 109, 105, 116]⟩, .string ⟨#[104, 101, 117, 114, 98, 97, 99, 107, 111, 117, 116]⟩]) (.int .i64 6)).run Try.prog w = .ok (.string ⟨#[104, 101, 117, 114, 99, 111, 109, 109, 105, 116]⟩) w := fun _ => by kernel_rfl
    go_enter Try.func17, Try.ntmps17
    go_wp2
    go_ret
    exact ⟨rfl, Below.refl _ _⟩
  · have hi : ∀ w, (Instr.index 36 (.agg #[.string ⟨#[110, 111, 110, 101]⟩, .string ⟨#[97, 99, 116, 105, 118, 101]⟩, .string ⟨#[112, 101, 110, 100, 105, 110, 103]⟩, .string ⟨#[100, 111, 117, 98, 116]⟩, .string ⟨#[99, 111, 109, 109, 105, 116, 116, 101, 100]⟩, .string ⟨#[98, 97, 99, 107, 101, 100]⟩, .string ⟨#[104, 101, 117, 114, 99, 111, 109, 109, 105, 116]⟩, .string ⟨#[104, 101, 117, 114, 98, 97, 99, 107, 111, 117, 116]⟩]) (.int .i64 7)).run Try.prog w = .ok (.string ⟨#[104, 101, 117, 114, 98, 97, 99, 107, 111, 117, 116]⟩) w := fun _ => by kernel_rfl
    go_enter Try.func17, Try.ntmps17
    go_wp2
    go_ret
    exact ⟨rfl, Below.refl _ _⟩

set_option maxHeartbeats 1000000 in
theorem rname_any (s : Int) (w : World) :
    Calls Try.prog 18 #[.int .i64 s] w fun e w' => e = .returned (.string (nameF s)) ∧ Below w.heap.size w w' := by
  by_cases h1 : s < 0
  · go_enter Try.func18, Try.ntmps18
    go_wp2
    go_ret
    exact ⟨ret_string (nameF_no (.inl h1)), by repeat (first | with_reducible exact Below.refl _ _ | with_reducible refine below_alloc ?_ _ | with_reducible refine below_drew ?_)⟩
  by_cases h2 : 7 < s
  · have hd : 8 ≤ s := by omega
    go_enter Try.func18, Try.ntmps18
    go_wp2
    go_ret
    exact ⟨ret_string (nameF_no (.inr h2)), by repeat (first | with_reducible exact Below.refl _ _ | with_reducible refine below_alloc ?_ _ | with_reducible refine below_drew ?_)⟩
  have h : s = 0 ∨ s = 1 ∨ s = 2 ∨ s = 3 ∨ s = 4 ∨ s = 5 ∨ s = 6 ∨ s = 7 := by omega
  clear h1 h2
  rcases h with rfl | rfl | rfl | rfl | rfl | rfl | rfl | rfl
  all_goals
    go_enter Try.func18, Try.ntmps18
    go_wp2
    go_ret
    exact ⟨rfl, by repeat (first | with_reducible exact Below.refl _ _ | with_reducible refine below_alloc ?_ _ | with_reducible refine below_drew ?_)⟩

set_option maxHeartbeats 1000000 in
theorem alive_any (w : World) : Calls Try.prog 13 #[] w fun e w' => e = .returned (.bool true) ∧ Below w.heap.size w w' := by
  have c1 : ∀ w, Calls Try.prog 9 #[.int .i64 7, .int .i64 4] w fun e w' => e = .returned (.tuple #[.int .i64 5, .bool true, .int .i64 0]) ∧ w = w' := fun w => learn_any 7 4 w
  have c2 : ∀ w, Calls Try.prog 11 #[.int .i64 0] w fun e w' => e = .returned (.tuple #[.int .i64 5, .int .i64 0]) ∧ w = w' := fun w => answer_any 0 w
  have c3 : ∀ w, Calls Try.prog 14 #[.int .i64 1, .bool true] w fun e w' => e = .returned (.tuple #[.int .i64 0, .int .i64 7]) ∧ w = w' := fun w => decide_any 1 true w
  have c4 : ∀ w, Calls Try.prog 17 #[.int .i64 3] w fun e w' => e = .returned (.string ⟨#[100, 111, 117, 98, 116]⟩) ∧ Below w.heap.size w w' := fun w => name_any 3 w
  go_enter Try.func13, Try.ntmps13
  go_wp2_with fail
  refine (c1 _).mono ?_
  rintro e w' ⟨rfl, rfl⟩
  go_wp2_with fail
  refine (c2 _).mono ?_
  rintro e w' ⟨rfl, rfl⟩
  go_wp2_with fail
  refine (c3 _).mono ?_
  rintro e w' ⟨rfl, rfl⟩
  go_wp2_with fail
  refine (c4 _).mono ?_
  rintro e w1 ⟨rfl, hb⟩
  go_wp2_with fail
  go_ret
  exact ⟨rfl, hb⟩
end Go.Proofs.Ytbnpdbldjchocaa
