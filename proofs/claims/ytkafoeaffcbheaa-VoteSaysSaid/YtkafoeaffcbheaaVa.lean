/- What must come of fixed calls (the laws' own alive), and the law VoteAll. -/
import Derived.Test.YtkafoeaffcbheaaVf
namespace Go.Proofs.Ytkafoeaffcbheaa
open Go.RowKit
set_option linter.unusedVariables false

def aliveKs : Fo := .cons 2 .nil (.cons 1 .nil .nil)
theorem alive_right : rightB 1 aliveKs = true := by decide +kernel
theorem alive_says : saysT 1 aliveKs = 1 := by decide +kernel
theorem alive_told : toldL 0 (seen 1 1 aliveKs) = [2] := by decide +kernel
theorem alive_flows : flowsT 1 aliveKs = 7 := by decide +kernel
theorem alive_not : rightB 0 .nil = false := by decide +kernel

theorem alive_kids (w : World) (B b : Nat) (hb : b < B) (h : w.heap[b]? = some (.cells #[.int .i64 2, .slice none 0 0, .int .i64 1, .slice none 0 0] 24 (0, 0))) :
    KidsAt w B (some ⟨b, 0, none⟩) 0 aliveKs :=
  ⟨⟨b, 0, 0, none, rfl, hb, by simp [World.cell?, h], by simp [World.cell?, h, Fo.len], Nat.le_refl _, by unfold maxLen; omega, trivial⟩,
   ⟨b, 0, 0, none, rfl, hb, by simp [World.cell?, h], by simp [World.cell?, h, Fo.len], Nat.le_refl _, by unfold maxLen; omega, trivial⟩, trivial⟩

/-- A tree in a variable of the call's own, at block N + 1, its kids below. -/
def Var (N : Nat) (A : Option Addr) (c : Nat) (v : Int) (ks : Fo) (W : World) : Prop :=
  W.cell? ⟨N, 0, none⟩ = some (.int .i64 v) ∧ W.cell? ⟨N, 1, none⟩ = some (.slice A ks.len c) ∧ N < W.heap.size ∧ KidsAt W W.heap.size A 0 ks
theorem Var.below {N : Nat} {A : Option Addr} {c : Nat} {v : Int} {ks : Fo} {W W' : World} (hb : Below W.heap.size W W') (h : Var N A c v ks W) : Var N A c v ks W' :=
  ⟨(hb.cell (p := ⟨N, 0, none⟩) h.2.2.1).trans h.1, (hb.cell (p := ⟨N, 1, none⟩) h.2.2.1).trans h.2.1, Nat.lt_of_lt_of_le h.2.2.1 hb.size, h.2.2.2.keep hb.size fun b o hlt => hb.cell (p := ⟨b, o, none⟩) hlt⟩

set_option maxRecDepth 100000 in
set_option maxHeartbeats 2000000 in
theorem alive_any (w : World) : Calls Try.prog 16 #[] w fun e w' => e = .returned (.bool true) ∧ Below w.heap.size w w' := by
  have h1 : ∀ W, Var (w.heap.size + 1) (some ⟨w.heap.size, 0, none⟩) 2 1 aliveKs W → Calls Try.prog 17 #[.agg #[.int .i64 1, .slice (some ⟨w.heap.size, 0, none⟩) 2 2]] W fun e w' => e = .returned (.tuple #[.int .i64 1, .int .i64 0]) ∧ Below W.heap.size W w' :=
    fun W hV => by have := says_yes alive_right W (c := 2) (Nat.le_refl _) (by unfold maxLen; omega) hV.2.2.2; rw [alive_says] at this; exact this
  have h2 : ∀ W, Var (w.heap.size + 1) (some ⟨w.heap.size, 0, none⟩) 2 1 aliveKs W → Calls Try.prog 11 #[.agg #[.int .i64 1, .slice (some ⟨w.heap.size, 0, none⟩) 2 2]] W fun e w' => ∃ g cap, e = .returned (.tuple #[.slice (some ⟨g, 0, none⟩) 1 cap, .int .i64 0]) ∧ w'.cell? ⟨g, 0, none⟩ = some (.int .i64 2) ∧ g < w'.heap.size ∧ Below W.heap.size W w' :=
    fun W hV => (told_yes alive_right W (c := 2) (Nat.le_refl _) (by unfold maxLen; omega) hV.2.2.2).mono fun e w' ⟨sv, he, ho, hb⟩ => by
      rw [alive_told] at ho
      obtain ⟨g, cap, rfl⟩ := ownsRow_succ ho
      exact ⟨g, cap, he, ho.cellAt 0 (by simp), (ho.lt g rfl).2, hb⟩
  have h3 : ∀ W, Var (w.heap.size + 1) (some ⟨w.heap.size, 0, none⟩) 2 1 aliveKs W → Calls Try.prog 18 #[.agg #[.int .i64 1, .slice (some ⟨w.heap.size, 0, none⟩) 2 2]] W fun e w' => e = .returned (.tuple #[.int .i64 7, .int .i64 0]) ∧ Below W.heap.size W w' :=
    fun W hV => by have := flows_yes alive_right W (c := 2) (Nat.le_refl _) (by unfold maxLen; omega) hV.2.2.2; rw [alive_flows] at this; exact this
  have h4 : ∀ W, Calls Try.prog 17 #[.agg #[.int .i64 0, .slice none 0 0]] W fun e w' => e = .returned (.tuple #[.int .i64 0, .int .i64 1]) ∧ Below W.heap.size W w' :=
    fun W => says_no (A := none) (c := 0) alive_not W (Nat.le_refl _) (by unfold maxLen; omega) trivial
  obtain ⟨W0, hW0⟩ : ∃ W0, (w.alloc (.cells #[.int .i64 2, .slice none 0 0, .int .i64 1, .slice none 0 0] 24)).alloc (.cells #[.int .i64 1, .slice (some ⟨w.heap.size, 0, none⟩) 2 2] 24) = W0 := ⟨_, rfl⟩
  have hz : W0.heap.size = w.heap.size + 1 + 1 := by rw [← hW0]; simp
  have hBw : Below w.heap.size w W0 := by rw [← hW0]; exact below_alloc (below_alloc (Below.refl _ _) _) _
  have hV : Var (w.heap.size + 1) (some ⟨w.heap.size, 0, none⟩) 2 1 aliveKs W0 := by
    refine ⟨by rw [← hW0]; simp, by rw [← hW0]; simp [aliveKs, Fo.len], by omega, alive_kids W0 _ _ (by omega) ?_⟩
    rw [← hW0]
    exact (Below.heap_alloc _ _ _ (by simp)).trans (World.alloc_heap_new w _)
  have hc0 := hV.1
  have hc1 : W0.cell? ⟨w.heap.size + 1, 1, none⟩ = some (.slice (some ⟨w.heap.size, 0, none⟩) 2 2) := hV.2.1
  have HV := Lib.hid hV
  have H1 := Lib.hid h1; have H2 := Lib.hid h2; have H3 := Lib.hid h3; have H4 := Lib.hid h4
  clear h1 h2 h3 h4 hV
  go_enter Try.func16, Try.ntmps16
  go_wp2_with fail
  clear hW0 hz
  refine (H1.out _ HV.out).mono ?_
  rintro e w1 ⟨rfl, hb1⟩
  have hV1 := Var.below hb1 HV.out
  have hd0 := hV1.1
  have hd1 : w1.cell? ⟨w.heap.size + 1, 1, none⟩ = some (.slice (some ⟨w.heap.size, 0, none⟩) 2 2) := hV1.2.1
  have HV1 := Lib.hid hV1
  clear hV1
  go_wp2_with fail
  refine (H2.out _ HV1.out).mono ?_
  rintro e w2 ⟨g, cap, rfl, hg, hgl, hb2⟩
  have hV2 := Var.below hb2 HV1.out
  have he0 := hV2.1
  have he1 : w2.cell? ⟨w.heap.size + 1, 1, none⟩ = some (.slice (some ⟨w.heap.size, 0, none⟩) 2 2) := hV2.2.1
  have HV2 := Lib.hid hV2
  clear hV2
  go_wp2_with fail
  refine (H3.out _ HV2.out).mono ?_
  rintro e w3 ⟨rfl, hb3⟩
  go_wp2_with fail
  refine (H4.out _).mono ?_
  rintro e w4 ⟨rfl, hb4⟩
  have hg4 : w4.cell? ⟨g, 0, none⟩ = some (.int .i64 2) := ((hb3.trans (hb4.mono hb3.size)).cell (p := ⟨g, 0, none⟩) hgl).trans hg
  go_wp2_with fail
  go_ret
  exact ⟨rfl, hBw.trans ((hb1.trans ((hb2.trans ((hb3.trans (hb4.mono hb3.size)).mono hb2.size)).mono hb1.size)).mono hBw.size)⟩
end Go.Proofs.Ytkafoeaffcbheaa
