/- The walk of the law VoteAll. -/
import Derived.Test.YtkafoeaffcbheaaVa
import Derived.Test.YtkafoeaffcbheaaVq
namespace Go.Proofs.Ytkafoeaffcbheaa
open Go.RowKit
set_option linter.unusedVariables false

/-- The world behind the boxing of a tree. -/
theorem boxed_tree (v : Int) (ks : Fo) (A : Option Addr) (c : Nat) (w : World) (hk : KidsAt w w.heap.size A 0 ks) :
    ∃ W0, w.alloc (.cells #[.int .i64 v, .slice A ks.len c] 24) = W0 ∧ Below w.heap.size w W0 ∧ Var w.heap.size A c v ks W0 := by
  refine ⟨_, rfl, below_alloc (Below.refl _ _) _, by simp, by simp, by simp, ?_⟩
  exact hk.keep (below_alloc (Below.refl _ _) _).size fun b o hb => (below_alloc (Below.refl _ w) (.cells #[.int .i64 v, .slice A ks.len c] 24)).cell (p := ⟨b, o, none⟩) hb

set_option maxRecDepth 100000 in
set_option maxHeartbeats 2000000 in
theorem walk_VoteAll (v : Int) (ks : Fo) (A : Option Addr) (c : Nat) (w : World) (hl : ks.len ≤ c) (hc : c ≤ maxLen) (hk : KidsAt w w.heap.size A 0 ks) :
    Calls Try.prog 7 #[.agg #[.int .i64 v, .slice A ks.len c]] w fun e w' => e = .returned (.bool true) ∧ Below w.heap.size w w' := by
  obtain ⟨W0, hW0, hBw, hV⟩ := boxed_tree v ks A c w hk
  have hc0 := hV.1
  have hc1 := hV.2.1
  cases hR : rightB v ks
  · have h1 := right_at hR hl hc hV.2.2.2
    have H1 := Lib.hid h1
    clear h1 hV hR hk
    go_enter Try.func7, Try.ntmps7
    go_wp2_with (first
      | (go_at_call 15; refine H1.out.mono ?_; clear H1; rintro e w1 ⟨rfl, hb1⟩)
      | (go_at_call 16; refine (alive_any _).mono ?_; rintro e w2 ⟨rfl, hb2⟩))
    go_ret
    exact ⟨rfl, hBw.trans ((hb1.trans (hb2.mono hb1.size)).mono hBw.size)⟩
  · have h1 := right_at hR hl hc hV.2.2.2
    have h2 : ∀ W, Var w.heap.size A c v ks W → Calls Try.prog 10 #[.agg #[.int .i64 v, .slice A ks.len c]] W fun e W' => e = .returned (.tuple #[.bool (!noT v ks), .int .i64 0]) ∧ Below W.heap.size W W' := fun W hW => by
      rw [← commits_iff hR]; exact commits_yes hR W hl hc hW.2.2.2
    have hsz := right_size hR
    have h3 : ∀ W, Var w.heap.size A c v ks W → Calls Try.prog 28 #[.agg #[.int .i64 v, .slice A ks.len c]] W fun e W' => e = .returned (.bool (noT v ks)) ∧ Below W.heap.size W W' := fun W hW =>
      no_any (ks.size + 1) v ks A c W (by omega) (by omega) hl hc hW.2.2.2
    generalize noT v ks = bb at h2 h3
    have H1 := Lib.hid h1; have H2 := Lib.hid h2; have H3 := Lib.hid h3; have HV := Lib.hid hV
    clear h1 h2 h3 hV hR hk hsz
    go_enter Try.func7, Try.ntmps7
    go_wp2_with fail
    refine H1.out.mono ?_
    rintro e w1 ⟨rfl, hb1⟩
    have hV1 := Var.below hb1 HV.out
    have hd0 := hV1.1
    have hd1 := hV1.2.1
    have HV1 := Lib.hid hV1
    clear hV1 hc0 hc1 hW0
    go_wp2_with fail
    refine (H2.out _ HV1.out).mono ?_
    rintro e w2 ⟨rfl, hb2⟩
    go_wp2_with fail
    refine (alive_any _).mono ?_
    rintro e w3 ⟨rfl, hb3⟩
    have hV3 := Var.below hb3 (Var.below hb2 HV1.out)
    have he0 := hV3.1
    have he1 := hV3.2.1
    have HV3 := Lib.hid hV3
    clear hV3 hd0 hd1
    go_wp2_with fail
    refine (H3.out _ HV3.out).mono ?_
    rintro e w4 ⟨rfl, hb4⟩
    go_wp2_with fail
    go_ret
    exact ⟨rfl, hBw.trans ((hb1.trans ((hb2.trans ((hb3.trans (hb4.mono hb3.size)).mono hb2.size)).mono hb1.size)).mono hBw.size)⟩
end Go.Proofs.Ytkafoeaffcbheaa
