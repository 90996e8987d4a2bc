/- oct.Put of four bytes. -/
import Derived.Test.YthpgfgnifbhjpaaLa
namespace Go.Proofs.Ythpgfgnifbhjpaa
open Go.RowKit
set_option linter.unusedVariables false

def putF (v : Int) : List Int := [v / 16777216, v / 65536 % 256, v / 256 % 256, v % 256]
theorem putF_bytes (v : Int) (h0 : 0 ≤ v) (h1 : v < 4294967296) : Bytes (putF v) := fun x hx => by
  simp only [putF, List.mem_cons, List.not_mem_nil, or_false] at hx
  rcases hx with rfl | rfl | rfl | rfl <;> omega
theorem get_put (v : Int) (h0 : 0 ≤ v) (h1 : v < 4294967296) : getF (putF v) = v := by
  simp only [getF, putF, getS]
  omega

set_option maxHeartbeats 1000000 in
theorem put_any (v : Int) (w : World) (h0 : 0 ≤ v) (h1 : v < 4294967296) :
    Calls Try.prog 30 #[.int .u64 v, .int .i64 4] w fun e w' => ∃ sv, e = .returned (.tuple #[sv, .int .i64 0]) ∧ w'.ownsRow w.heap.size 5 1 sv 4 ((putF v).map (Value.int .u8)) ∧ Below w.heap.size w w' := by
  have mk4 : ∀ w : World, (Instr.makeSlice 34 (.int .i64 4) (.int .i64 4)).run Try.prog w = .ok (.slice (some ⟨w.heap.size, 0, none⟩) 4 4) (w.alloc (.cells #[.int .u8 0, .int .u8 0, .int .u8 0, .int .u8 0] 5)) := fun _ => by kernel_rfl
  have hv : v / 4294967296 ≤ 0 := by omega
  go_enter Try.func30, Try.ntmps30
  go_wp2
  go_loopw [7, 27] (fun _ i wr => (i = .int .i64 0 ∧ wr = w.alloc (.cells #[.int .u8 0, .int .u8 0, .int .u8 0, .int .u8 0] 5)) ∨
      (i = .int .i64 1 ∧ wr = w.alloc (.cells #[.int .u8 0, .int .u8 0, .int .u8 0, .int .u8 (v % 256)] 5)) ∨
      (i = .int .i64 2 ∧ wr = w.alloc (.cells #[.int .u8 0, .int .u8 0, .int .u8 (v / 256 % 256), .int .u8 (v % 256)] 5)) ∨
      (i = .int .i64 3 ∧ wr = w.alloc (.cells #[.int .u8 0, .int .u8 (v / 65536 % 256), .int .u8 (v / 256 % 256), .int .u8 (v % 256)] 5)) ∨
      (i = .int .i64 4 ∧ wr = w.alloc (.cells #[.int .u8 (v / 16777216), .int .u8 (v / 65536 % 256), .int .u8 (v / 256 % 256), .int .u8 (v % 256)] 5))) (fun _ i _ => 4 - (intOf i).toNat)
  case atStart => exact .inl ⟨rfl, rfl⟩
  case round =>
    rcases hrel with ⟨rfl, rfl⟩ | ⟨rfl, rfl⟩ | ⟨rfl, rfl⟩ | ⟨rfl, rfl⟩ | ⟨rfl, rfl⟩
    · go_wp2
      go_roundw
      case rel => exact .inr (.inl ⟨rfl, by first | trivial | rfl⟩)
      case measure => simp [intOf]
    · go_wp2
      go_roundw
      case rel => exact .inr (.inr (.inl ⟨rfl, by first | trivial | rfl⟩))
      case measure => simp [intOf]
    · go_wp2
      go_roundw
      case rel => exact .inr (.inr (.inr (.inl ⟨rfl, by first | trivial | rfl⟩)))
      case measure => simp [intOf]
    · go_wp2
      go_roundw
      case rel => exact .inr (.inr (.inr (.inr ⟨rfl, by first | trivial | rfl⟩)))
      case measure => simp [intOf]
    · go_wp2
      go_ret2
      exact ⟨_, rfl, World.ownsRow_lit w #[.int .u8 (v / 16777216), .int .u8 (v / 65536 % 256), .int .u8 (v / 256 % 256), .int .u8 (v % 256)] 4 (Nat.le_refl _) (by decide) rfl, below_alloc (Below.refl _ _) _⟩
end Go.Proofs.Ythpgfgnifbhjpaa
