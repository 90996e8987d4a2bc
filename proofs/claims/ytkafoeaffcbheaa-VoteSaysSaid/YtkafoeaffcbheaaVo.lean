/- vote.Says, vote.Commits, vote.Told and vote.Flows, at every tree. -/
import Derived.Test.YtkafoeaffcbheaaVp
namespace Go.Proofs.Ytkafoeaffcbheaa
open Go.RowKit Go.Shelf

attribute [local go_sem] Oper.semAt_some
set_option linter.unusedVariables false

theorem right_at {v : Int} {ks : Fo} {bb : Bool} (h : rightB v ks = bb) {A : Option Addr} {c : Nat} {w : World} (hl : ks.len ≤ c) (hc : c ≤ maxLen) (hk : KidsAt w w.heap.size A 0 ks) :
    Calls Try.prog 15 #[.agg #[.int .i64 v, .slice A ks.len c]] w fun e W' => e = .returned (.bool bb) ∧ Below w.heap.size w W' := by
  rw [← h]; exact right_any v ks A c w hl hc hk

set_option maxRecDepth 100000 in
set_option maxHeartbeats 1000000 in
theorem says_no {v : Int} {ks : Fo} (h : rightB v ks = false) {A : Option Addr} {c : Nat} (w : World) (hl : ks.len ≤ c) (hc : c ≤ maxLen) (hk : KidsAt w w.heap.size A 0 ks) :
    Calls Try.prog 17 #[.agg #[.int .i64 v, .slice A ks.len c]] w fun e W' => e = .returned (.tuple #[.int .i64 0, .int .i64 1]) ∧ Below w.heap.size w W' := by
  obtain ⟨w0, hw0⟩ : ∃ w0, w.alloc (.cells #[.int .i64 v, .slice A ks.len c] 24) = w0 := ⟨_, rfl⟩
  have hz : w0.heap.size = w.heap.size + 1 := by rw [← hw0]; simp
  have hbox0 : w0.cell? ⟨w.heap.size, 0, none⟩ = some (.int .i64 v) := by rw [← hw0]; simp
  have hbox : w0.cell? ⟨w.heap.size, 1, none⟩ = some (.slice A ks.len c) := by rw [← hw0]; simp
  have hBw : Below w.heap.size w w0 := by rw [← hw0]; exact (Below.refl _ _).alloc (Nat.le_refl _) _
  have hr := right_at h hl hc (hk.keep (w' := w0) hBw.size fun b o hb => hBw.cell (p := ⟨b, o, none⟩) hb)
  have HR := Lib.hid hr
  clear hr h hk
  go_enter Try.func17, Try.ntmps17
  go_wp2_with (go_at_call 15; refine HR.out.mono ?_; clear HR; rintro e w1 ⟨rfl, hb1⟩)
  go_ret2
  exact ⟨rfl, hBw.trans (hb1.mono hBw.size)⟩

set_option maxRecDepth 100000 in
set_option maxHeartbeats 1000000 in
theorem says_yes {v : Int} {ks : Fo} (h : rightB v ks = true) {A : Option Addr} {c : Nat} (w : World) (hl : ks.len ≤ c) (hc : c ≤ maxLen) (hk : KidsAt w w.heap.size A 0 ks) :
    Calls Try.prog 17 #[.agg #[.int .i64 v, .slice A ks.len c]] w fun e W' => e = .returned (.tuple #[.int .i64 (saysT v ks), .int .i64 0]) ∧ Below w.heap.size w W' := by
  have hsz := right_size h
  obtain ⟨w0, hw0⟩ : ∃ w0, w.alloc (.cells #[.int .i64 v, .slice A ks.len c] 24) = w0 := ⟨_, rfl⟩
  have hz : w0.heap.size = w.heap.size + 1 := by rw [← hw0]; simp
  have hbox0 : w0.cell? ⟨w.heap.size, 0, none⟩ = some (.int .i64 v) := by rw [← hw0]; simp
  have hbox : w0.cell? ⟨w.heap.size, 1, none⟩ = some (.slice A ks.len c) := by rw [← hw0]; simp
  have hBw : Below w.heap.size w w0 := by rw [← hw0]; exact (Below.refl _ _).alloc (Nat.le_refl _) _
  have hk0 : KidsAt w0 w0.heap.size A 0 ks := hk.keep (w' := w0) hBw.size fun b o hb => hBw.cell (p := ⟨b, o, none⟩) hb
  have hr := right_at h hl hc hk0
  have hn : NodeAt w0 w0.heap.size w.heap.size 0 v ks := ⟨c, A, by omega, hbox0, hbox, hl, hc, hk0⟩
  have hy : ∀ w1, Below w0.heap.size w0 w1 → Calls Try.prog 30 #[.pointer (some ⟨w.heap.size, 0, none⟩)] w1 fun e w' => e = .returned (.int .i64 (saysT v ks)) ∧ Below w1.heap.size w1 w' :=
    fun w1 hb => says_any (ks.size + 1) v ks w.heap.size 0 w1 (by omega) (by omega) (hn.keep hb.size fun b o hlt => hb.cell (p := ⟨b, o, none⟩) hlt)
  have HR := Lib.hid hr
  have HY := Lib.hid hy
  clear hr hy h hk hk0 hn
  go_enter Try.func17, Try.ntmps17
  go_wp2_with (first
    | (go_at_call 15; refine HR.out.mono ?_; clear HR; rintro e w1 ⟨rfl, hb1⟩)
    | (go_at_call 30; refine (HY.out _ hb1).mono ?_; rintro e w2 ⟨rfl, hb2⟩))
  go_ret2
  exact ⟨rfl, hBw.trans ((hb1.trans (hb2.mono hb1.size)).mono hBw.size)⟩

set_option maxRecDepth 100000 in
set_option maxHeartbeats 1000000 in
theorem commits_no {v : Int} {ks : Fo} (h : rightB v ks = false) {A : Option Addr} {c : Nat} (w : World) (hl : ks.len ≤ c) (hc : c ≤ maxLen) (hk : KidsAt w w.heap.size A 0 ks) :
    Calls Try.prog 10 #[.agg #[.int .i64 v, .slice A ks.len c]] w fun e W' => e = .returned (.tuple #[.bool false, .int .i64 1]) ∧ Below w.heap.size w W' := by
  obtain ⟨w0, hw0⟩ : ∃ w0, w.alloc (.cells #[.int .i64 v, .slice A ks.len c] 24) = w0 := ⟨_, rfl⟩
  have hz : w0.heap.size = w.heap.size + 1 := by rw [← hw0]; simp
  have hbox0 : w0.cell? ⟨w.heap.size, 0, none⟩ = some (.int .i64 v) := by rw [← hw0]; simp
  have hbox : w0.cell? ⟨w.heap.size, 1, none⟩ = some (.slice A ks.len c) := by rw [← hw0]; simp
  have hBw : Below w.heap.size w w0 := by rw [← hw0]; exact (Below.refl _ _).alloc (Nat.le_refl _) _
  have hr := says_no h w0 hl hc (hk.keep (w' := w0) hBw.size fun b o hb => hBw.cell (p := ⟨b, o, none⟩) hb)
  have HR := Lib.hid hr
  clear hr h hk
  go_enter Try.func10, Try.ntmps10
  go_wp2_with (go_at_call 17; refine HR.out.mono ?_; clear HR; rintro e w1 ⟨rfl, hb1⟩)
  go_ret2
  exact ⟨rfl, hBw.trans (hb1.mono hBw.size)⟩

set_option maxRecDepth 100000 in
set_option maxHeartbeats 1000000 in
theorem commits_yes {v : Int} {ks : Fo} (h : rightB v ks = true) {A : Option Addr} {c : Nat} (w : World) (hl : ks.len ≤ c) (hc : c ≤ maxLen) (hk : KidsAt w w.heap.size A 0 ks) :
    Calls Try.prog 10 #[.agg #[.int .i64 v, .slice A ks.len c]] w fun e W' => e = .returned (.tuple #[.bool (saysT v ks != 3), .int .i64 0]) ∧ Below w.heap.size w W' := by
  obtain ⟨w0, hw0⟩ : ∃ w0, w.alloc (.cells #[.int .i64 v, .slice A ks.len c] 24) = w0 := ⟨_, rfl⟩
  have hz : w0.heap.size = w.heap.size + 1 := by rw [← hw0]; simp
  have hbox0 : w0.cell? ⟨w.heap.size, 0, none⟩ = some (.int .i64 v) := by rw [← hw0]; simp
  have hbox : w0.cell? ⟨w.heap.size, 1, none⟩ = some (.slice A ks.len c) := by rw [← hw0]; simp
  have hBw : Below w.heap.size w w0 := by rw [← hw0]; exact (Below.refl _ _).alloc (Nat.le_refl _) _
  have hr := says_yes h w0 hl hc (hk.keep (w' := w0) hBw.size fun b o hb => hBw.cell (p := ⟨b, o, none⟩) hb)
  have HR := Lib.hid hr
  clear hr h hk
  go_enter Try.func10, Try.ntmps10
  go_wp2_with (go_at_call 17; refine HR.out.mono ?_; clear HR; rintro e w1 ⟨rfl, hb1⟩)
  go_ret2
  exact ⟨rfl, hBw.trans (hb1.mono hBw.size)⟩
end Go.Proofs.Ytkafoeaffcbheaa
