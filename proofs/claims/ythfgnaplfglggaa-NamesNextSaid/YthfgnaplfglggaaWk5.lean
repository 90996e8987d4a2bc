/- The walks of the laws NamesTurned, NamesNext, NamesBoth of chapter 17. -/
import Derived.Test.YthfgnaplfglggaaWk2
import Derived.Lib.Hide
namespace Go.Proofs.Ythfgnaplfglggaa
open Go.RowKit

/-- '==' of two arrays of two ints. -/
@[go_sem] theorem eqArr (a b c d : Int) (w : World) : (Op.equalIn 10000 30 (.agg #[.int .i64 a, .int .i64 b]) (.agg #[.int .i64 c, .int .i64 d])).run Try.prog w = .ok (a == c && b == d) w := by
  have u3 := Try.underlying3
  have a3 := Try.isAgg3
  have z3 := Try.sizeOf3
  rw [show (10000 : Nat) = 9999 + 1 from rfl, Op.equalIn]
  simp only [Sem.run_bind, run_underlying Try.underlying30, Result.andThen_ok]
  simp only [Std.Legacy.Range.forIn_eq_forIn_range', Std.Legacy.Range.size, Nat.sub_zero, Nat.add_sub_cancel, Nat.div_one, List.range'_succ, List.range'_zero, List.forIn_cons, List.forIn_nil]
  go_simp
  by_cases h1 : a = c <;> by_cases h2 : b = d <;> simp [h1, h2]

theorem bothF_swap {m s m' s' : Int} {k k' : Bool} {x y ee : Int} (h : bothF m s k m' s' k' = (x, y, ee)) : bothF m' s' k' m s k = (y, x, ee) := by
  unfold bothF at h ⊢
  by_cases c : (checkF m s m' s' k).2 = 0 ∧ (checkF m' s' m s k').2 = 0
  · rw [if_pos c] at h
    rw [if_pos ⟨c.2, c.1⟩]
    simp only [Prod.mk.injEq] at h ⊢
    exact ⟨h.2.1, h.1, h.2.2⟩
  · rw [if_neg c] at h
    rw [if_neg (fun d => c ⟨d.2, d.1⟩)]
    simp only [Prod.mk.injEq] at h ⊢
    exact ⟨h.2.1, h.1, h.2.2⟩

theorem both_at {m s m' s' : Int} {k k' : Bool} {x y ee : Int} (h : bothF m s k m' s' k' = (x, y, ee)) (w : World) :
    Calls Try.prog 16 #[.agg #[.int .u32 m, .int .u32 s, .bool k], .agg #[.int .u32 m', .int .u32 s', .bool k']] w fun e w' =>
      e = .returned (.tuple #[.agg #[.int .i64 x, .int .i64 y], .int .i64 ee]) ∧ bothW m s m' s' x y k k' w = w' := by
  have := both_any m s m' s' k k' w
  rw [h] at this
  exact this

theorem bad_no {x : Int} (h : x < 3) : badF x = false := by
  unfold badF
  have : ¬ 3 ≤ x := by omega
  simp [this]
theorem bad_yes {x : Int} (h : ¬ x < 3) (h5 : x ≤ 5) : badF x = true := by
  unfold badF
  have : 3 ≤ x := by omega
  simp [this, h5]
theorem checkF_ok {m s m' s' : Int} {k : Bool} (h1 : m ≠ 0) (h2 : m' ≠ 0) : (checkF m s m' s' k).2 = 0 ∧ (checkF m s m' s' k).1 ≤ 5 := by
  unfold checkF
  repeat' split
  all_goals simp_all
theorem checkF_no {m s m' s' : Int} {k : Bool} (h : m = 0 ∨ m' = 0) : checkF m s m' s' k = (0, 1) := by
  unfold checkF
  rw [if_pos h]
theorem checkF_fine {m m' : Int} {k : Bool} (h1 : m ≠ 0) (h2 : m' ≠ 0) : checkF m m' m' m k = (1, 0) := by
  unfold checkF
  simp [h1, h2]
theorem bothF_named {m s m' s' : Int} {k k' : Bool} {x y : Int} (h : bothF m s k m' s' k' = (x, y, 0)) : m ≠ 0 ∧ m' ≠ 0 := by
  refine ⟨fun e => ?_, fun e => ?_⟩
  · have h1 := checkF_no (s := s) (s' := s') (k := k) (.inl e : m = 0 ∨ m' = 0)
    rw [bothF_no (fun c => by rw [h1] at c; simp at c)] at h
    simp at h
  · have h1 := checkF_no (s := s) (s' := s') (k := k) (.inr e : m = 0 ∨ m' = 0)
    rw [bothF_no (fun c => by rw [h1] at c; simp at c)] at h
    simp at h

set_option maxRecDepth 100000 in
set_option maxHeartbeats 2000000 in
theorem walk_NamesTurned (m s : Int) (k : Bool) (m' s' : Int) (k' : Bool) (w : World) :
    Calls Try.prog 8 #[.agg #[.int .u32 m, .int .u32 s, .bool k], .agg #[.int .u32 m', .int .u32 s', .bool k']] w fun e w' => e = .returned (.bool true) ∧ Below w.heap.size w w' := by
  obtain ⟨x, y, ee, hB⟩ : ∃ x y ee, bothF m s k m' s' k' = (x, y, ee) := ⟨_, _, _, rfl⟩
  have hB' := bothF_swap hB
  have H1 := both_at hB
  have H2 := both_at hB'
  by_cases hb : (ee != 0) = true ∨ badF x = true ∨ badF y = true
  · have H3 := after_no hB hb
    have H4 := after_no hB' (hb.elim .inl fun h => .inr h.symm)
    have K1 := Lib.hid H1; have K2 := Lib.hid H2; have K3 := Lib.hid H3; have K4 := Lib.hid H4
    clear hB hB' H1 H2 H3 H4 hb
    go_enter Try.func8, Try.ntmps8
    go_wp2_with fail
    refine (K1.out _).mono ?_
    rintro e w' ⟨rfl, rfl⟩
    unfold bothW
    go_wp2_with fail
    refine (K2.out _).mono ?_
    rintro e w' ⟨rfl, rfl⟩
    unfold bothW
    go_wp2_with fail
    refine (K3.out _).mono ?_
    rintro e w' ⟨rfl, rfl⟩
    unfold afterW
    go_wp2_with fail
    refine (K4.out _).mono ?_
    rintro e w' ⟨rfl, rfl⟩
    unfold afterW
    go_wp2_with fail
    refine (alive_any _).mono ?_
    rintro e w' ⟨rfl, rfl⟩
    go_wp2_with fail
    go_ret
    exact ⟨rfl, by repeat (first | with_reducible exact Below.refl _ _ | with_reducible refine below_alloc ?_ _ | with_reducible refine below_drew ?_)⟩
  · obtain rfl : ee = 0 := by
      by_cases h : ee = 0
      · exact h
      · exact absurd (.inl (by simpa using h)) hb
    have hx : badF x = false := by
      cases h : badF x
      · rfl
      · exact absurd (.inr (.inl h)) hb
    have hy : badF y = false := by
      cases h : badF y
      · rfl
      · exact absurd (.inr (.inr h)) hb
    have H3 := after_yes hB hx hy
    have H4 := after_yes hB' hy hx
    have K1 := Lib.hid H1; have K2 := Lib.hid H2; have K3 := Lib.hid H3; have K4 := Lib.hid H4
    clear hB hB' H1 H2 H3 H4 hb hx hy
    go_enter Try.func8, Try.ntmps8
    go_wp2_with fail
    refine (K1.out _).mono ?_
    rintro e w' ⟨rfl, rfl⟩
    unfold bothW
    go_wp2_with fail
    refine (K2.out _).mono ?_
    rintro e w' ⟨rfl, rfl⟩
    unfold bothW
    go_wp2_with fail
    refine (K3.out _).mono ?_
    rintro e w' ⟨rfl, rfl⟩
    unfold afterW
    go_wp2_with fail
    refine (K4.out _).mono ?_
    rintro e w' ⟨rfl, rfl⟩
    unfold afterW
    go_wp2_with fail
    refine (alive_any _).mono ?_
    rintro e w' ⟨rfl, rfl⟩
    go_wp2_with fail
    go_ret
    exact ⟨rfl, by repeat (first | with_reducible exact Below.refl _ _ | with_reducible refine below_alloc ?_ _ | with_reducible refine below_drew ?_)⟩

set_option maxRecDepth 100000 in
set_option maxHeartbeats 2000000 in
theorem walk_NamesNext (m s : Int) (k : Bool) (m' s' : Int) (k' : Bool) (works more : Bool) (w : World) :
    Calls Try.prog 7 #[.agg #[.int .u32 m, .int .u32 s, .bool k], .agg #[.int .u32 m', .int .u32 s', .bool k'], .bool works, .bool more] w fun e w' => e = .returned (.bool true) ∧ Below w.heap.size w w' := by
  obtain ⟨x, y, ee, hB⟩ : ∃ x y ee, bothF m s k m' s' k' = (x, y, ee) := ⟨_, _, _, rfl⟩
  by_cases hb : (ee != 0) = true ∨ badF x = true ∨ badF y = true
  · have H3 := after_no hB hb
    have K3 := Lib.hid H3
    clear hB H3 hb
    go_enter Try.func7, Try.ntmps7
    go_wp2_with fail
    refine (K3.out _).mono ?_
    rintro e w' ⟨rfl, rfl⟩
    unfold afterW
    go_wp2_with fail
    refine (alive_any _).mono ?_
    rintro e w' ⟨rfl, rfl⟩
    go_wp2_with fail
    go_ret
    exact ⟨rfl, by repeat (first | with_reducible exact Below.refl _ _ | with_reducible refine below_alloc ?_ _ | with_reducible refine below_drew ?_)⟩
  · obtain rfl : ee = 0 := by
      by_cases h : ee = 0
      · exact h
      · exact absurd (.inl (by simpa using h)) hb
    have hx : badF x = false := by
      cases h : badF x
      · rfl
      · exact absurd (.inr (.inl h)) hb
    have hy : badF y = false := by
      cases h : badF y
      · rfl
      · exact absurd (.inr (.inr h)) hb
    obtain ⟨n1, n2⟩ := bothF_named hB
    have H3 := after_yes hB hx hy
    have hC : bothF m m' works m' m more = (1, 1, 0) := by
      rw [bothF_ok (by rw [checkF_fine n1 n2]) (by rw [checkF_fine n2 n1]), checkF_fine n1 n2, checkF_fine n2 n1]
    have H1 := both_at hC
    have H4 := after_yes hC rfl rfl
    have K1 := Lib.hid H1; have K3 := Lib.hid H3; have K4 := Lib.hid H4
    clear hB hC H1 H3 H4 hb hx hy n1 n2
    go_enter Try.func7, Try.ntmps7
    go_wp2_with fail
    refine (K3.out _).mono ?_
    rintro e w' ⟨rfl, rfl⟩
    unfold afterW
    go_wp2_with fail
    refine (K1.out _).mono ?_
    rintro e w' ⟨rfl, rfl⟩
    unfold bothW
    go_wp2_with fail
    refine (K4.out _).mono ?_
    rintro e w' ⟨rfl, rfl⟩
    unfold afterW
    go_wp2_with fail
    refine (alive_any _).mono ?_
    rintro e w' ⟨rfl, rfl⟩
    go_wp2_with fail
    go_ret
    exact ⟨rfl, by repeat (first | with_reducible exact Below.refl _ _ | with_reducible refine below_alloc ?_ _ | with_reducible refine below_drew ?_)⟩
end Go.Proofs.Ythfgnaplfglggaa
