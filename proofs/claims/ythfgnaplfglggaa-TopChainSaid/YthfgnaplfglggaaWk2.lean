/- The walks of package names: Both, After, alive. -/
import Derived.Test.YthfgnaplfglggaaWk1
import Derived.Test.YthfgnaplfglggaaBase
namespace Go.Proofs.Ythfgnaplfglggaa
open Go.RowKit

/-- What two sides find of each other, by numbers. -/
def bothF (m s : Int) (k : Bool) (m' s' : Int) (k' : Bool) : Int × Int × Int :=
  if (checkF m s m' s' k).2 = 0 ∧ (checkF m' s' m s k').2 = 0 then ((checkF m s m' s' k).1, (checkF m' s' m s k').1, 0) else (0, 0, 1)

theorem bothF_ok {m s m' s' : Int} {k k' : Bool} (h1 : (checkF m s m' s' k).2 = 0) (h2 : (checkF m' s' m s k').2 = 0) :
    bothF m s k m' s' k' = ((checkF m s m' s' k).1, (checkF m' s' m s k').1, 0) := by unfold bothF; rw [if_pos ⟨h1, h2⟩]
theorem bothF_no {m s m' s' : Int} {k k' : Bool} (h : ¬ ((checkF m s m' s' k).2 = 0 ∧ (checkF m' s' m s k').2 = 0)) :
    bothF m s k m' s' k' = (0, 0, 1) := by unfold bothF; rw [if_neg h]

/-- The world behind Both: three new blocks. -/
def bothW (m s m' s' x y : Int) (k k' : Bool) (w : World) : World :=
  ((w.alloc (.cells #[.int .u32 m, .int .u32 s, .bool k] 34)).alloc (.cells #[.int .u32 m', .int .u32 s', .bool k'] 34)).alloc (.cells #[.int .i64 x, .int .i64 y] 30)

set_option maxHeartbeats 400000 in
theorem both_any (m s m' s' : Int) (k k' : Bool) (w : World) :
    Calls Try.prog 16 #[.agg #[.int .u32 m, .int .u32 s, .bool k], .agg #[.int .u32 m', .int .u32 s', .bool k']] w fun e w' =>
      e = .returned (.tuple #[.agg #[.int .i64 (bothF m s k m' s' k').1, .int .i64 (bothF m s k m' s' k').2.1], .int .i64 (bothF m s k m' s' k').2.2]) ∧
      bothW m s m' s' (bothF m s k m' s' k').1 (bothF m s k m' s' k').2.1 k k' w = w' := by
  go_enter Try.func16, Try.ntmps16
  go_wp2_with (go_at_call 10; refine (check_any _ _ _ _ _ _).mono ?_; rintro e w' ⟨rfl, rfl⟩)
  · rename_i h1 h2
    rw [bothF_no (fun h => by rw [h.2] at h2; exact absurd h2 (by decide))]
    exact bodyPost_ret (v := .tuple #[.agg #[.int .i64 0, .int .i64 0], .int .i64 1]) (by simp [results, Try.results16, go_sem]) rfl ⟨rfl, rfl⟩
  · rename_i h1 h2
    rw [bothF_ok h1 (by simpa using h2)]
    exact bodyPost_ret (v := .tuple #[.agg #[.int .i64 (checkF m s m' s' k).1, .int .i64 (checkF m' s' m s k').1], .int .i64 0]) (by simp [results, Try.results16, go_sem]) rfl ⟨rfl, rfl⟩
  · rename_i h1
    rw [bothF_no (fun h => h1 h.1)]
    exact bodyPost_ret (v := .tuple #[.agg #[.int .i64 0, .int .i64 0], .int .i64 1]) (by simp [results, Try.results16, go_sem]) rfl ⟨rfl, rfl⟩

/-- What both sides know behind an exchange. -/
def afterF (m s : Int) (k : Bool) (m' s' : Int) (k' : Bool) : Bool :=
  decide ((bothF m s k m' s' k').2.2 = 0) && !badF (bothF m s k m' s' k').1 && !badF (bothF m s k m' s' k').2.1

/-- The world behind After: eight new blocks; the first four hold what was saved behind the exchange (n, n'). -/
def afterW (m s m' s' n n' x y : Int) (k k' : Bool) (w : World) : World :=
  ((((((((w.alloc (.cells #[.int .u32 m, .int .u32 n, .bool k] 34)).alloc (.cells #[.int .u32 m', .int .u32 n', .bool k'] 34)).alloc
    (.cells #[.int .u32 m, .int .u32 n, .bool k] 34)).alloc (.cells #[.int .u32 m', .int .u32 n', .bool k'] 34)).alloc
    (.cells #[.int .u32 m, .int .u32 s, .bool k] 34)).alloc (.cells #[.int .u32 m', .int .u32 s', .bool k'] 34)).alloc
    (.cells #[.int .i64 x, .int .i64 y] 30)).alloc (.cells #[.int .i64 x, .int .i64 y] 30)).drew

set_option maxRecDepth 100000 in
set_option maxHeartbeats 1000000 in
theorem after_aux (m s m' s' : Int) (k k' : Bool) (x y ee : Int)
    (H : ∀ w, Calls Try.prog 16 #[.agg #[.int .u32 m, .int .u32 s, .bool k], .agg #[.int .u32 m', .int .u32 s', .bool k']] w fun e w' =>
      e = .returned (.tuple #[.agg #[.int .i64 x, .int .i64 y], .int .i64 ee]) ∧ bothW m s m' s' x y k k' w = w') (w : World) :
    Calls Try.prog 17 #[.agg #[.int .u32 m, .int .u32 s, .bool k], .agg #[.int .u32 m', .int .u32 s', .bool k']] w fun e w' =>
      ((ee != 0) = true ∨ badF x = true ∨ badF y = true) ∧ e = .returned (.tuple #[.agg #[.int .u32 m, .int .u32 s, .bool k], .agg #[.int .u32 m', .int .u32 s', .bool k'], .bool false]) ∧ afterW m s m' s' s s' x y k k' w = w' ∨
      ((ee != 0) = false ∧ badF x = false ∧ badF y = false) ∧ e = .returned (.tuple #[.agg #[.int .u32 m, .int .u32 m', .bool k], .agg #[.int .u32 m', .int .u32 m, .bool k'], .bool true]) ∧ afterW m s m' s' m' m x y k k' w = w' := by
  go_enter Try.func17, Try.ntmps17
  go_wp2_with (first
    | (go_at_call 16; refine (H _).mono ?_; rintro e w1 ⟨rfl, rfl⟩; unfold bothW)
    | (go_at_call 13; refine (bad_any _ _).mono ?_; rintro e w' ⟨rfl, rfl⟩))
  · go_region
    all_goals go_wp2
    exact bodyPost_ret (v := .tuple #[.agg #[.int .u32 m, .int .u32 s, .bool k], .agg #[.int .u32 m', .int .u32 s', .bool k'], .bool false]) (by simp [results, Try.results17, go_sem]) rfl
      (.inl ⟨.inr (.inl (by assumption)), rfl, rfl⟩)
  · go_region
    all_goals go_wp2
    exact bodyPost_ret (v := .tuple #[.agg #[.int .u32 m, .int .u32 s, .bool k], .agg #[.int .u32 m', .int .u32 s', .bool k'], .bool false]) (by simp [results, Try.results17, go_sem]) rfl
      (.inl ⟨.inr (.inr (by assumption)), rfl, rfl⟩)
  · go_region
    all_goals go_wp2
    rename_i he hx hy
    exact bodyPost_ret (v := .tuple #[.agg #[.int .u32 m, .int .u32 m', .bool k], .agg #[.int .u32 m', .int .u32 m, .bool k'], .bool true]) (by simp [results, Try.results17, go_sem]) rfl
      (.inr ⟨⟨by rw [he]; rfl, by simpa using hx, hy⟩, rfl, rfl⟩)
  · go_region
    all_goals go_wp2
    rename_i he
    exact bodyPost_ret (v := .tuple #[.agg #[.int .u32 m, .int .u32 s, .bool k], .agg #[.int .u32 m', .int .u32 s', .bool k'], .bool false]) (by simp [results, Try.results17, go_sem]) rfl
      (.inl ⟨.inl (by simpa using he), rfl, rfl⟩)

theorem after_no {m s m' s' : Int} {k k' : Bool} {x y ee : Int} (hB : bothF m s k m' s' k' = (x, y, ee)) (h : (ee != 0) = true ∨ badF x = true ∨ badF y = true) (w : World) :
    Calls Try.prog 17 #[.agg #[.int .u32 m, .int .u32 s, .bool k], .agg #[.int .u32 m', .int .u32 s', .bool k']] w fun e w' =>
      e = .returned (.tuple #[.agg #[.int .u32 m, .int .u32 s, .bool k], .agg #[.int .u32 m', .int .u32 s', .bool k'], .bool false]) ∧ afterW m s m' s' s s' x y k k' w = w' := by
  refine (after_aux m s m' s' k k' x y ee (fun w => by have := both_any m s m' s' k k' w; rw [hB] at this; exact this) w).mono ?_
  rintro e w' (⟨_, h2⟩ | ⟨⟨h1, h2, h3⟩, _⟩)
  · exact h2
  · rw [h1, h2, h3] at h
    simp at h
theorem after_yes {m s m' s' : Int} {k k' : Bool} {x y : Int} (hB : bothF m s k m' s' k' = (x, y, 0)) (hx : badF x = false) (hy : badF y = false) (w : World) :
    Calls Try.prog 17 #[.agg #[.int .u32 m, .int .u32 s, .bool k], .agg #[.int .u32 m', .int .u32 s', .bool k']] w fun e w' =>
      e = .returned (.tuple #[.agg #[.int .u32 m, .int .u32 m', .bool k], .agg #[.int .u32 m', .int .u32 m, .bool k'], .bool true]) ∧ afterW m s m' s' m' m x y k k' w = w' := by
  refine (after_aux m s m' s' k k' x y 0 (fun w => by have := both_any m s m' s' k k' w; rw [hB] at this; exact this) w).mono ?_
  rintro e w' (⟨h1, _⟩ | ⟨_, h2⟩)
  · rw [hx, hy] at h1
    simp at h1
  · exact h2

set_option maxRecDepth 100000 in
set_option maxHeartbeats 1000000 in
theorem alive_any (w : World) : Calls Try.prog 12 #[] w fun e w' => e = .returned (.bool true) ∧ w.alloc (.cells nameTab 47) = w' := by
  have c1 : ∀ w, Calls Try.prog 10 #[.int .u32 1, .int .u32 0, .int .u32 2, .int .u32 0, .bool false] w fun e w' => e = .returned (.tuple #[.int .i64 2, .int .i64 0]) ∧ w = w' := fun w => check_any 1 0 2 0 false w
  have c2 : ∀ w, Calls Try.prog 10 #[.int .u32 1, .int .u32 2, .int .u32 3, .int .u32 0, .bool true] w fun e w' => e = .returned (.tuple #[.int .i64 3, .int .i64 0]) ∧ w = w' := fun w => check_any 1 2 3 0 true w
  have c3 : ∀ w, Calls Try.prog 10 #[.int .u32 0, .int .u32 2, .int .u32 3, .int .u32 0, .bool true] w fun e w' => e = .returned (.tuple #[.int .i64 0, .int .i64 1]) ∧ w = w' := fun w => check_any 0 2 3 0 true w
  have c4 : ∀ w, Calls Try.prog 14 #[.int .i64 5] w fun e w' => e = .returned (.string ⟨#[102, 111, 114, 103, 111, 116]⟩) ∧ w.alloc (.cells nameTab 47) = w' := fun w => name_any 5 w
  go_enter Try.func12, Try.ntmps12
  go_wp2_with fail
  refine (c1 _).mono ?_
  rintro e w' ⟨rfl, rfl⟩
  go_wp2_with fail
  refine (c2 _).mono ?_
  rintro e w' ⟨rfl, rfl⟩
  go_wp2_with fail
  refine (c3 _).mono ?_
  rintro e w' ⟨rfl, rfl⟩
  go_wp2_with fail
  refine (c4 _).mono ?_
  rintro e w1 ⟨rfl, rfl⟩
  go_wp2_with fail
  go_ret
  exact ⟨rfl, rfl⟩
end Go.Proofs.Ythfgnaplfglggaa
