/- trothref01.SameLists, at lists that are the same. -/
import Derived.Test.YthpgfgnifbhjpaaLc
import Derived.Laws.BytesArg
import Derived.Deep.QuietTactic
import Derived.BigQuiet
namespace Go.Proofs.Ythpgfgnifbhjpaa
open Go.RowKit
set_option linter.unusedVariables false

theorem conv_str {W : World} {A : Option Addr} {xs : List Int} (h : BytesAt W A xs) (c : Nat) : (convert 34 9 (.slice A xs.length c)).run Try.prog W = .ok (.string (strOfNums xs)) W := by
  have hs : Try.prog.underlying 34 = some (.slice 5) := by kernel_rfl
  have he : Try.prog.underlying 5 = some (.int .u8) := by kernel_rfl
  have hd : Try.prog.underlying 9 = some .string := by kernel_rfl
  by_cases hp : 0 < xs.length
  · obtain ⟨b, off, rfl, -, hc⟩ := h hp
    exact run_convert_bytes_arg W _ _ hs he b off _ c xs rfl (fun i hi => by rw [hc i xs[i] (List.getElem?_eq_getElem hi)]; simp [List.getD, List.getElem?_eq_getElem hi]) _ hd
  · obtain rfl : xs = [] := List.eq_nil_of_length_eq_zero (by omega)
    cases A with
    | none => exact run_convert_bytes_nil W _ _ hs he _ _ _ hd
    | some ad =>
      have hl : (loadCells ad 0).run Try.prog W = .ok (([] : List Int).map (Value.int .u8)).toArray W := by simp [loadCells, loadCellsFrom, Sem.run_pure]
      show (convert 34 9 (.slice (some ad) 0 c)).run Try.prog W = _
      rw [run_convert_bytes_string W _ _ _ _ _ c hs he hd, run_bytesToString W ad 0 c [] hl]
      rfl

set_option maxRecDepth 100000 in
set_option maxHeartbeats 4000000 in
theorem same_any (A1 A2 : Option Addr) (c1 c2 : Nat) (ps : List (List Int)) (w : World) (h1 : PartsP w (fun _ => True) A1 ps) (h2 : PartsP w (fun _ => True) A2 ps) (hn : ps.length ≤ 10) :
    Calls Try.prog 11 #[.slice A1 ps.length c1, .slice A2 ps.length c2] w fun e w' => e = .returned (.bool true) ∧ Below w.heap.size w w' := by
  go_enter Try.func11, Try.ntmps11
  go_wp2
  go_loopw [5] (fun i wr => ∃ (k : Nat), k ≤ ps.length ∧ i = .int .i64 k ∧ Below w.heap.size w wr) (fun i _ => ps.length - (intOf i).toNat)
  case atStart => exact ⟨0, Nat.zero_le _, rfl, Below.refl _ _⟩
  case round =>
    obtain ⟨k, hk, rfl, hB⟩ := hrel
    by_cases hlt : k < ps.length
    · have h1' := h1.below hB
      have h2' := h2.below hB
      obtain ⟨b, off, rfl, -, hc⟩ := h1' (by omega)
      obtain ⟨b', off', rfl, -, hc'⟩ := h2' (by omega)
      obtain ⟨A, c, z1, l1, m1, B1⟩ := hc k _ (List.getElem?_eq_getElem hlt)
      obtain ⟨A', c', z2, l2, m2, B2⟩ := hc' k _ (List.getElem?_eq_getElem hlt)
      generalize ps[k] = p at z1 z2 B1 B2 l1 l2
      have v1 : ∀ j, (convert 34 9 (.slice A p.length c)).run Try.prog (wr.drewN j) = .ok (.string (strOfNums p)) (wr.drewN j) := fun j => conv_str (W := wr.drewN j) (A := A) (xs := p) B1 c
      have v2 : ∀ j, (convert 34 9 (.slice A' p.length c')).run Try.prog (wr.drewN j) = .ok (.string (strOfNums p)) (wr.drewN j) := fun j => conv_str (W := wr.drewN j) (A := A') (xs := p) B2 c'
      have hkl : (k : Int) < (ps.length : Int) := by omega
      have hk0 : (0 : Int) ≤ (k : Int) := by omega
      clear hc hc' h1' h2'
      go_wp2
      go_quiet (fail)
      go_wp2
      exact ⟨⟨k + 1, by omega, by go_num, ⟨hB.os, hB.tape, hB.output, hB.size, hB.block⟩⟩, by simp [intOf]; omega⟩
    · have hkl : ¬ (k : Int) < (ps.length : Int) := by omega
      go_wp2
      go_ret
      exact ⟨rfl, hB⟩
end Go.Proofs.Ythpgfgnifbhjpaa
