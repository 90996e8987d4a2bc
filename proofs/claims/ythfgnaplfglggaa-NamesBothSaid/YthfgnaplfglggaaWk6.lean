/- The walk of the law NamesBoth of chapter 17. -/
import Derived.Test.YthfgnaplfglggaaWk5
namespace Go.Proofs.Ythfgnaplfglggaa
open Go.RowKit

set_option maxRecDepth 100000 in
set_option maxHeartbeats 2000000 in
theorem both_err (m s : Int) (k : Bool) (m' s' : Int) (k' : Bool) (h : m = 0 ∨ m' = 0) (w : World) :
    Calls Try.prog 5 #[.agg #[.int .u32 m, .int .u32 s, .bool k], .agg #[.int .u32 m', .int .u32 s', .bool k']] w fun e w' => e = .returned (.bool true) ∧ Below w.heap.size w w' := by
  have hB : bothF m s k m' s' k' = (0, 0, 1) := bothF_no (fun c => by rw [checkF_no h] at c; simp at c)
  have H1 := both_at hB
  have H3 := after_no hB (.inl rfl)
  have e1 : ∀ w, Calls Try.prog 11 #[.int .u32 m, .int .u32 s, .int .u32 m', .int .u32 s', .bool k] w fun e w' =>
      e = .returned (.tuple #[.int .i64 0, .int .i64 1]) ∧ w = w' := fun w => by have := rcheck_any m s m' s' k w; rw [checkF_no h] at this; exact this
  have e2 : ∀ w, Calls Try.prog 11 #[.int .u32 m', .int .u32 s', .int .u32 m, .int .u32 s, .bool k'] w fun e w' =>
      e = .returned (.tuple #[.int .i64 0, .int .i64 1]) ∧ w = w' := fun w => by have := rcheck_any m' s' m s k' w; rw [checkF_no h.symm] at this; exact this
  have K1 := Lib.hid H1; have K3 := Lib.hid H3; have C1 := Lib.hid e1; have C2 := Lib.hid e2
  clear hB H1 H3 e1 e2 h
  go_enter Try.func5, Try.ntmps5
  go_wp2_with fail
  refine (K1.out _).mono ?_
  rintro e w' ⟨rfl, rfl⟩
  unfold bothW
  go_wp2_with fail
  refine (C1.out _).mono ?_
  rintro e w' ⟨rfl, rfl⟩
  go_wp2_with fail
  refine (C2.out _).mono ?_
  rintro e w' ⟨rfl, rfl⟩
  go_wp2_with fail
  refine (K3.out _).mono ?_
  rintro e w' ⟨rfl, rfl⟩
  unfold afterW
  go_wp2_with fail
  refine (alive_any _).mono ?_
  rintro e w' ⟨rfl, rfl⟩
  go_wp2_with fail
  go_ret
  exact ⟨rfl, by repeat (first | with_reducible exact Below.refl _ _ | with_reducible refine below_alloc ?_ _ | with_reducible refine below_drew ?_)⟩

set_option maxRecDepth 100000 in
set_option maxHeartbeats 4000000 in
theorem both_fine (m s : Int) (k : Bool) (m' s' : Int) (k' : Bool) (x y : Int) (hB : bothF m s k m' s' k' = (x, y, 0)) (e1 : checkF m s m' s' k = (x, 0)) (e2 : checkF m' s' m s k' = (y, 0))
    (hx5 : x ≤ 5) (hy5 : y ≤ 5) (w : World) :
    Calls Try.prog 5 #[.agg #[.int .u32 m, .int .u32 s, .bool k], .agg #[.int .u32 m', .int .u32 s', .bool k']] w fun e w' => e = .returned (.bool true) ∧ Below w.heap.size w w' := by
  have H1 := both_at hB
  have c1 : ∀ w, Calls Try.prog 11 #[.int .u32 m, .int .u32 s, .int .u32 m', .int .u32 s', .bool k] w fun e w' =>
      e = .returned (.tuple #[.int .i64 x, .int .i64 0]) ∧ w = w' := fun w => by have := rcheck_any m s m' s' k w; rw [e1] at this; exact this
  have c2 : ∀ w, Calls Try.prog 11 #[.int .u32 m', .int .u32 s', .int .u32 m, .int .u32 s, .bool k'] w fun e w' =>
      e = .returned (.tuple #[.int .i64 y, .int .i64 0]) ∧ w = w' := fun w => by have := rcheck_any m' s' m s k' w; rw [e2] at this; exact this
  have K1 := Lib.hid H1; have C1 := Lib.hid c1; have C2 := Lib.hid c2
  clear H1 c1 c2
  by_cases hx : x < 3
  · by_cases hy : y < 3
    · have K3 := Lib.hid (after_yes hB (bad_no hx) (bad_no hy))
      clear hB e1 e2
      go_enter Try.func5, Try.ntmps5
      go_wp2_with fail
      refine (K1.out _).mono ?_
      rintro e w' ⟨rfl, rfl⟩
      unfold bothW
      go_wp2_with fail
      refine (C1.out _).mono ?_
      rintro e w' ⟨rfl, rfl⟩
      go_wp2_with fail
      refine (C2.out _).mono ?_
      rintro e w' ⟨rfl, rfl⟩
      go_wp2_with fail
      refine (K3.out _).mono ?_
      rintro e w' ⟨rfl, rfl⟩
      unfold afterW
      go_wp2_with fail
      refine (alive_any _).mono ?_
      rintro e w' ⟨rfl, rfl⟩
      go_wp2_with fail
      go_ret
      exact ⟨rfl, by repeat (first | with_reducible exact Below.refl _ _ | with_reducible refine below_alloc ?_ _ | with_reducible refine below_drew ?_)⟩
    · have K3 := Lib.hid (after_no hB (.inr (.inr (bad_yes hy hy5))))
      clear hB e1 e2
      go_enter Try.func5, Try.ntmps5
      go_wp2_with fail
      refine (K1.out _).mono ?_
      rintro e w' ⟨rfl, rfl⟩
      unfold bothW
      go_wp2_with fail
      refine (C1.out _).mono ?_
      rintro e w' ⟨rfl, rfl⟩
      go_wp2_with fail
      refine (C2.out _).mono ?_
      rintro e w' ⟨rfl, rfl⟩
      go_wp2_with fail
      refine (K3.out _).mono ?_
      rintro e w' ⟨rfl, rfl⟩
      unfold afterW
      go_wp2_with fail
      refine (alive_any _).mono ?_
      rintro e w' ⟨rfl, rfl⟩
      go_wp2_with fail
      go_ret
      exact ⟨rfl, by repeat (first | with_reducible exact Below.refl _ _ | with_reducible refine below_alloc ?_ _ | with_reducible refine below_drew ?_)⟩
  · have K3 := Lib.hid (after_no hB (.inr (.inl (bad_yes hx hx5))))
    clear hB e1 e2
    go_enter Try.func5, Try.ntmps5
    go_wp2_with fail
    refine (K1.out _).mono ?_
    rintro e w' ⟨rfl, rfl⟩
    unfold bothW
    go_wp2_with fail
    refine (C1.out _).mono ?_
    rintro e w' ⟨rfl, rfl⟩
    go_wp2_with fail
    refine (C2.out _).mono ?_
    rintro e w' ⟨rfl, rfl⟩
    go_wp2_with fail
    refine (K3.out _).mono ?_
    rintro e w' ⟨rfl, rfl⟩
    unfold afterW
    go_wp2_with fail
    refine (alive_any _).mono ?_
    rintro e w' ⟨rfl, rfl⟩
    go_wp2_with fail
    go_ret
    exact ⟨rfl, by repeat (first | with_reducible exact Below.refl _ _ | with_reducible refine below_alloc ?_ _ | with_reducible refine below_drew ?_)⟩

theorem walk_NamesBoth (m s : Int) (k : Bool) (m' s' : Int) (k' : Bool) (w : World) :
    Calls Try.prog 5 #[.agg #[.int .u32 m, .int .u32 s, .bool k], .agg #[.int .u32 m', .int .u32 s', .bool k']] w fun e w' => e = .returned (.bool true) ∧ Below w.heap.size w w' := by
  by_cases h1 : m = 0
  · exact both_err m s k m' s' k' (.inl h1) w
  by_cases h2 : m' = 0
  · exact both_err m s k m' s' k' (.inr h2) w
  have o1 := checkF_ok (s := s) (s' := s') (k := k) h1 h2
  have o2 := checkF_ok (s := s') (s' := s) (k := k') h2 h1
  exact both_fine m s k m' s' k' _ _ (bothF_ok o1.1 o2.1) (Prod.ext rfl o1.1) (Prod.ext rfl o2.1) o1.2 o2.2 w
end Go.Proofs.Ythfgnaplfglggaa
