/- The walks of package names: each function as a plain function of numbers. -/
import Derived.Test.YthfgnaplfglggaaRows
import Derived.WalkKit
import Derived.WalkSpells
import Derived.WalkLawsBesides
import Derived.BigQuiet
import Derived.Deep.QuietTactic
namespace Go.Proofs.Ythfgnaplfglggaa
open Go.RowKit

def checkF (mine saved theirs known : Int) (works : Bool) : Int × Int :=
  if mine = 0 ∨ theirs = 0 then (0, 1) else if saved ≠ 0 ∧ saved ≠ theirs then (3, 0) else if known ≠ 0 ∧ known ≠ mine then (4, 0)
  else if known = 0 ∧ works = true then (5, 0) else if saved = 0 then (2, 0) else (1, 0)

theorem ret_ints {a b c d : Int} (h : (c, d) = (a, b)) : Ending.returned (.tuple #[.int .i64 a, .int .i64 b]) = .returned (.tuple #[.int .i64 c, .int .i64 d]) := by
  cases h; rfl

set_option maxHeartbeats 400000 in
theorem check_any (mine saved theirs known : Int) (works : Bool) (w : World) :
    Calls Try.prog 10 #[.int .u32 mine, .int .u32 saved, .int .u32 theirs, .int .u32 known, .bool works] w fun e w' =>
      e = .returned (.tuple #[.int .i64 (checkF mine saved theirs known works).1, .int .i64 (checkF mine saved theirs known works).2]) ∧ w = w' := by
  go_enter Try.func10, Try.ntmps10
  go_wp2
  all_goals
    go_ret2
    refine ⟨ret_ints ?_, rfl⟩
    simp_all [checkF]

set_option maxHeartbeats 400000 in
theorem rcheck_any (mine saved theirs known : Int) (works : Bool) (w : World) :
    Calls Try.prog 11 #[.int .u32 mine, .int .u32 saved, .int .u32 theirs, .int .u32 known, .bool works] w fun e w' =>
      e = .returned (.tuple #[.int .i64 (checkF mine saved theirs known works).1, .int .i64 (checkF mine saved theirs known works).2]) ∧ w = w' := by
  go_enter Try.func11, Try.ntmps11
  go_wp2
  all_goals
    go_ret2
    refine ⟨ret_ints ?_, rfl⟩
    simp_all [checkF]

def badF (found : Int) : Bool := decide (3 ≤ found) && decide (found ≤ 5)

theorem ret_bool {a b : Bool} (h : b = a) : Ending.returned (.bool a) = .returned (.bool b) := by cases h; rfl

set_option maxHeartbeats 400000 in
theorem bad_any (found : Int) (w : World) :
    Calls Try.prog 13 #[.int .i64 found] w fun e w' => e = .returned (.bool (badF found)) ∧ w = w' := by
  go_enter Try.func13, Try.ntmps13
  go_wp2
  all_goals
    go_ret
    refine ⟨ret_bool ?_, rfl⟩
    simp_all [badF]
  omega

def nameF (found : Int) : ByteArray :=
  if found = 1 then ⟨#[102, 105, 110, 101]⟩ else if found = 2 then ⟨#[110, 101, 119]⟩ else if found = 3 then ⟨#[99, 104, 97, 110, 103, 101, 100]⟩
  else if found = 4 then ⟨#[115, 116, 114, 97, 110, 103, 101]⟩ else if found = 5 then ⟨#[102, 111, 114, 103, 111, 116]⟩ else ⟨#[]⟩

def nameTab : Array Value := #[.string ⟨#[]⟩, .string ⟨#[102, 105, 110, 101]⟩, .string ⟨#[110, 101, 119]⟩, .string ⟨#[99, 104, 97, 110, 103, 101, 100]⟩, .string ⟨#[115, 116, 114, 97, 110, 103, 101]⟩, .string ⟨#[102, 111, 114, 103, 111, 116]⟩]

theorem ret_string {a b : ByteArray} (h : b = a) : Ending.returned (.string a) = .returned (.string b) := by cases h; rfl

set_option maxHeartbeats 1000000 in
theorem name_any (found : Int) (w : World) :
    Calls Try.prog 14 #[.int .i64 found] w fun e w' => e = .returned (.string (nameF found)) ∧ w.alloc (.cells nameTab 47) = w' := by
  by_cases h1 : found < 1
  · go_enter Try.func14, Try.ntmps14
    go_wp2
    go_ret
    exact ⟨ret_string (by unfold nameF; simp (disch := omega) only [if_neg]), rfl⟩
  by_cases h2 : 5 < found
  · go_enter Try.func14, Try.ntmps14
    go_wp2
    go_ret
    exact ⟨ret_string (by unfold nameF; simp (disch := omega) only [if_neg]), rfl⟩
  have h : found = 1 ∨ found = 2 ∨ found = 3 ∨ found = 4 ∨ found = 5 := by omega
  clear h1 h2
  rcases h with rfl | rfl | rfl | rfl | rfl
  all_goals
    go_enter Try.func14, Try.ntmps14
    go_wp2
    go_ret
    exact ⟨rfl, rfl⟩

set_option maxHeartbeats 400000 in
theorem rname_any (found : Int) (w : World) :
    Calls Try.prog 15 #[.int .i64 found] w fun e w' => e = .returned (.string (nameF found)) ∧ w = w' := by
  go_enter Try.func15, Try.ntmps15
  go_wp2
  all_goals
    go_ret
    refine ⟨ret_string ?_, rfl⟩
    simp_all [nameF]

end Go.Proofs.Ythfgnaplfglggaa
