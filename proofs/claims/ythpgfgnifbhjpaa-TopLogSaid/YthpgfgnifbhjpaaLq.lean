/- trothtop.alive02. -/
import Derived.Test.YthpgfgnifbhjpaaLp
namespace Go.Proofs.Ythpgfgnifbhjpaa
open Go.RowKit Go.Shelf
set_option linter.unusedVariables false

set_option maxRecDepth 100000 in
set_option maxHeartbeats 4000000 in
theorem alive_any (w : World) : Calls Try.prog 4 #[] w fun e w' => e = .returned (.bool true) ∧ Below w.heap.size w w' := by
  have hnw := tape8_new 64 w (by omega) (by omega)
  have HN := Lib.hid hnw
  clear hnw
  have hs1 : sumF [] = 1 := by rfl
  have hr7 : (recF 1 []).length = 7 := by rfl
  have HS := Lib.hid hs1; have H7 := Lib.hid hr7
  clear hs1 hr7
  go_enter Try.func4, Try.ntmps4
  go_wp2_with (first
    | (go_at_call 5; refine HN.out.mono ?_; rintro e w1 ⟨rfl, hT1, hb1⟩; have z1 := hT1.lt)
    | (go_at_call 6; refine (open_any w.heap.size w.heap.size 64 [] 0 [] [] w1 (by omega) (Nat.le_refl _) hT1 rfl (by simp) (by simp) (.inl (by simp)) (by simp)).mono ?_; rintro e w2 ⟨L, A2, c2, rfl, hL2, hP2, hT2, -, hb2⟩; have z2 := hb2.size)
    | (go_at_call 8; refine (add_any w.heap.size L w.heap.size w1.heap.size 0 64 1 none [] 0 true [] 0 w2 ⟨Nat.le_refl _, by omega, by omega, by omega⟩ hP2 hT2 (by omega) (by simp) (by simp) (by omega) (by omega) (by omega) (by omega) (by simp) (fun x hx => by cases hx) (fun hp => absurd hp (by simp)) (by simp) (by unfold maxLen; omega)).mono ?_; rintro e w3 ⟨rfl, -, hT3, hb3⟩; simp only [if_true, List.nil_append] at hT3; rw [H7.out] at hT3; obtain ⟨-, A9, c9, hP9⟩ := hT3)
    | (go_at_call 12; refine (tape_forced w.heap.size 64 (7 : Nat) w3 (by omega) hP9.1.1 hP9.1.2.2).mono ?_; rintro e w4 ⟨rfl, rfl⟩)
    | (go_at_call 13; refine (sum_any none 0 [] w3 (fun hp => absurd hp (by simp)) (fun x hx => by cases hx) (by simp)).mono ?_; rintro e w5 ⟨rfl, rfl⟩; rw [HS.out]))
  go_ret
  exact ⟨rfl, (hb1.trans hb2).trans hb3⟩
end Go.Proofs.Ythpgfgnifbhjpaa
