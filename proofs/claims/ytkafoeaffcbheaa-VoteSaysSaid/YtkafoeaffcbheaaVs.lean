/- vote.Says3 and its reference: what votes say together. -/
import Derived.Test.YtkafoeaffcbheaaVt
import Derived.WalkKit
import Derived.WalkSpells
import Derived.WalkLawsBesides
import Derived.Lib.Hide
namespace Go.Proofs.Ytkafoeaffcbheaa
open Go.RowKit
set_option linter.unusedVariables false

/-- A list of ints lies in memory, in a block below B. -/
def IntsAt (w : World) (B : Nat) (A : Option Addr) (xs : List Int) : Prop :=
  0 < xs.length → ∃ b off, A = some ⟨b, off, none⟩ ∧ b < B ∧ ∀ i x, xs[i]? = some x → w.cell? ⟨b, off + i, none⟩ = some (.int .i64 x)

def s3 : List Int → Int → Int
  | [], o => o
  | x :: xs, o => if x = 1 then s3 xs (if o = 2 then 1 else o) else if x = 2 then s3 xs o else 3
def says3F (xs : List Int) : Int := s3 xs 2

theorem ret_i64 {a b : Int} (h : b = a) : Ending.returned (.int .i64 a) = .returned (.int .i64 b) := by cases h; rfl

set_option maxHeartbeats 1000000 in
theorem says3_any (A : Option Addr) (c : Nat) (xs : List Int) (w : World) (hA : IntsAt w w.heap.size A xs) (hm : xs.length ≤ maxLen) :
    Calls Try.prog 26 #[.slice A xs.length c] w fun e w' => e = .returned (.int .i64 (says3F xs)) ∧ w = w' := by
  unfold maxLen at hm
  go_enter Try.func26, Try.ntmps26
  go_wp2
  go_loop [3, 8] (fun o i => ∃ (k : Nat) (oo : Int), k ≤ xs.length ∧ i = .int .i64 k ∧ o = .int .i64 oo ∧ s3 (xs.drop k) oo = says3F xs) (fun _ i => xs.length - (intOf i).toNat)
  case atStart => exact ⟨0, 2, Nat.zero_le _, rfl, rfl, rfl⟩
  case round =>
    obtain ⟨k, oo, hk, rfl, rfl, hs⟩ := hrel
    by_cases hlt : k < xs.length
    · obtain ⟨b, off, rfl, hb, hc⟩ := hA (by omega)
      have hx : xs[k]? = some xs[k] := List.getElem?_eq_getElem hlt
      have hcell := hc k _ hx
      rw [List.drop_eq_getElem_cons hlt, s3] at hs
      generalize xs[k] = x at hs hcell hx
      have HS := Lib.hid hs
      clear hs hx hc
      by_cases x1 : x = 1
      · subst x1
        by_cases o2 : oo = 2
        · subst o2
          go_wp2
          go_round
          case rel => exact ⟨k + 1, 1, by omega, by go_num, rfl, by simpa using HS.out⟩
          case measure => simp [intOf]; omega
        · have o2' : (oo == 2) = false := by simpa using o2
          have H2 := Lib.hid o2
          clear o2
          go_wp2
          go_round
          case rel => exact ⟨k + 1, oo, by omega, by go_num, rfl, by simpa [H2.out] using HS.out⟩
          case measure => simp [intOf]; omega
      · by_cases x2 : x = 2
        · subst x2
          go_wp2
          go_round
          case rel => exact ⟨k + 1, oo, by omega, by go_num, rfl, by simpa using HS.out⟩
          case measure => simp [intOf]; omega
        · have e1 : (x == 1) = false := by simpa using x1
          have e2 : (x == 2) = false := by simpa using x2
          have H1 := Lib.hid x1
          have H2 := Lib.hid x2
          clear x1 x2
          go_wp2
          go_ret
          exact ⟨ret_i64 (by have := HS.out; rw [if_neg H1.out, if_neg H2.out] at this; exact this.symm), rfl⟩
    · have : k = xs.length := by omega
      have HS := Lib.hid hs
      clear hs
      have HK := Lib.hid this
      clear this
      go_wp2
      go_ret
      exact ⟨ret_i64 (by have := HS.out; rw [HK.out, List.drop_length] at this; exact this.symm), rfl⟩
end Go.Proofs.Ytkafoeaffcbheaa
