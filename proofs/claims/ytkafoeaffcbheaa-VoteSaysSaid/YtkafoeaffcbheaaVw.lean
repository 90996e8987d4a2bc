/- The walk of the law VoteFlows. -/
import Derived.Test.YtkafoeaffcbheaaVx
import Derived.Test.YtkafoeaffcbheaaVq2
import Derived.Deep.QuietTactic
import Derived.BigQuiet
namespace Go.Proofs.Ytkafoeaffcbheaa
open Go.RowKit
set_option linter.unusedVariables false

/-- vote.Told, its answer as a slice of ints in memory. -/
theorem told_at {v : Int} {ks : Fo} (h : rightB v ks = true) {A : Option Addr} {c : Nat} (w : World) (hl : ks.len ≤ c) (hc : c ≤ maxLen) (hk : KidsAt w w.heap.size A 0 ks) :
    Calls Try.prog 11 #[.agg #[.int .i64 v, .slice A ks.len c]] w fun e W' => ∃ B cap, e = .returned (.tuple #[.slice B (toldL 0 (seen 1 v ks)).length cap, .int .i64 0]) ∧
      IntsAt W' W'.heap.size B (toldL 0 (seen 1 v ks)) ∧ Below w.heap.size w W' := by
  refine (told_yes h w hl hc hk).mono fun e W' ⟨sv, he, ho, hb⟩ => ?_
  rcases ho.2 with ⟨rfl, h0⟩ | ⟨g, cap, cur, rfl, _⟩
  · exact ⟨none, 0, by rw [he, h0], fun hp => by omega, hb⟩
  · exact ⟨_, cap, he, intsAt_of_own ho rfl (ho.lt g rfl).2, hb⟩
theorem IntsAt.below {W W' : World} {A : Option Addr} {xs : List Int} (hb : Below W.heap.size W W') (h : IntsAt W W.heap.size A xs) : IntsAt W' W'.heap.size A xs := fun hp => by
  obtain ⟨b, off, e, hlt, hc⟩ := h hp
  exact ⟨b, off, e, Nat.lt_of_lt_of_le hlt hb.size, fun i x hx => (hb.cell (p := ⟨b, off + i, none⟩) hlt).trans (hc i x hx)⟩

set_option maxRecDepth 100000 in
set_option maxHeartbeats 4000000 in
theorem flows_ok (v : Int) (ks : Fo) (A : Option Addr) (c : Nat) (w : World) (hl : ks.len ≤ c) (hc : c ≤ maxLen) (hk : KidsAt w w.heap.size A 0 ks) (hR : rightB v ks = true) :
    Calls Try.prog 5 #[.agg #[.int .i64 v, .slice A ks.len c]] w fun e w' => e = .returned (.bool true) ∧ Below w.heap.size w w' := by
  obtain ⟨W0, hW0, hBw, hV⟩ := boxed_tree v ks A c w hk
  have hc0 := hV.1
  have hc1 := hV.2.1
  have hsz := right_size hR
  have hTs := told_le hR
  have hz2 : saysT v ks = 2 → (toldL 0 (seen 1 v ks)).length = 0 := fun h => by rw [told_none h]; rfl
  have hrise := toldL_rising (seen 1 v ks) 0
  have h1 := right_at hR hl hc hV.2.2.2
  have h2 : ∀ W, Var w.heap.size A c v ks W → Calls Try.prog 18 #[.agg #[.int .i64 v, .slice A ks.len c]] W fun e W' => e = .returned (.tuple #[.int .i64 (2 * (ks.size : Int) + 3 * ((toldL 0 (seen 1 v ks)).length : Int)), .int .i64 0]) ∧ Below W.heap.size W W' := fun W hW => by
    have := flows_yes hR W hl hc hW.2.2.2
    rw [show (flowsT v ks : Int) = 2 * (ks.size : Int) + 3 * ((toldL 0 (seen 1 v ks)).length : Int) by unfold flowsT; omega] at this
    exact this
  have h3 : ∀ W, Var w.heap.size A c v ks W → Calls Try.prog 17 #[.agg #[.int .i64 v, .slice A ks.len c]] W fun e W' => e = .returned (.tuple #[.int .i64 (saysT v ks), .int .i64 0]) ∧ Below W.heap.size W W' := fun W hW => says_yes hR W hl hc hW.2.2.2
  have h4 : ∀ W, Var w.heap.size A c v ks W → _ := fun W hW => told_at hR W hl hc hW.2.2.2
  have h5 : ∀ W, Var w.heap.size A c v ks W → Calls Try.prog 19 #[.agg #[.int .i64 v, .slice A ks.len c]] W fun e W' => e = .returned (.int .i64 ((ks.size : Int) + 1)) ∧ Below W.heap.size W W' := fun W hW => by
    have := count_any (ks.size + 1) v ks A c W (by omega) (by omega) hl hc hW.2.2.2
    rw [show ((ks.size + 1 : Nat) : Int) = (ks.size : Int) + 1 by omega] at this
    exact this
  generalize toldL 0 (seen 1 v ks) = L at h2 h4 hTs hz2 hrise
  generalize saysT v ks = sy at h3 hz2
  generalize hs : ks.size = s at h2 h5 hTs hsz
  have hs64 : s < 64 := by omega
  have H1 := Lib.hid h1; have HV := Lib.hid hV
  by_cases hy : sy = 2
  · have hT0 : L.length = 0 := hz2 hy
    obtain rfl : L = [] := List.eq_nil_of_length_eq_zero hT0
    subst hy
    have h2' : ∀ W, Var w.heap.size A c v ks W → Calls Try.prog 18 #[.agg #[.int .i64 v, .slice A ks.len c]] W fun e W' => e = .returned (.tuple #[.int .i64 (2 * (s : Int)), .int .i64 0]) ∧ Below W.heap.size W W' := fun W hW => by
      have := h2 W hW
      rw [show 2 * (s : Int) + 3 * ((([] : List Int).length : Nat) : Int) = 2 * (s : Int) by simp] at this
      exact this
    have h4' : ∀ W, Var w.heap.size A c v ks W → Calls Try.prog 11 #[.agg #[.int .i64 v, .slice A ks.len c]] W fun e W' => ∃ B cap, e = .returned (.tuple #[.slice B 0 cap, .int .i64 0]) ∧ IntsAt W' W'.heap.size B [] ∧ Below W.heap.size W W' := h4
    have H2 := Lib.hid h2'; have H3 := Lib.hid h3; have H4 := Lib.hid h4'; have H5 := Lib.hid h5
    clear h1 h2 h2' h3 h4 h4' h5 hV hR hk hsz hs hrise hz2 hT0
    go_enter Try.func5, Try.ntmps5
    go_wp2_with fail
    refine H1.out.mono ?_
    rintro e w1 ⟨rfl, hb1⟩
    have hV1 := Var.below hb1 HV.out
    have hd0 := hV1.1
    have hd1 := hV1.2.1
    have HV1 := Lib.hid hV1
    clear hV1 hc0 hc1 hW0
    go_wp2_with fail
    refine (H2.out _ HV1.out).mono ?_
    rintro e w2 ⟨rfl, hb2⟩
    have hV2 := Var.below hb2 HV1.out
    have he0 := hV2.1
    have he1 := hV2.2.1
    have HV2 := Lib.hid hV2
    clear hV2 hd0 hd1
    go_wp2_with fail
    refine (H3.out _ HV2.out).mono ?_
    rintro e w3 ⟨rfl, hb3⟩
    have hV3 := Var.below hb3 HV2.out
    have hf0 := hV3.1
    have hf1 := hV3.2.1
    have HV3 := Lib.hid hV3
    clear hV3 he0 he1
    go_wp2_with fail
    refine (H4.out _ HV3.out).mono ?_
    rintro e w4 ⟨B, cap, rfl, hL, hb4⟩
    have hV4 := Var.below hb4 HV3.out
    have hg0 := hV4.1
    have hg1 := hV4.2.1
    have HV4 := Lib.hid hV4
    clear hV4 hf0 hf1
    go_wp2_with fail
    refine (H5.out _ HV4.out).mono ?_
    rintro e w5 ⟨rfl, hb5⟩
    have hL5 := hL.below hb5
    clear hg0 hg1
    go_wp2_with fail
    have hBB : Below w.heap.size w w5 := hBw.trans ((hb1.trans ((hb2.trans ((hb3.trans ((hb4.trans (hb5.mono hb4.size)).mono hb3.size)).mono hb2.size)).mono hb1.size)).mono hBw.size)
    clear hb1 hb2 hb3 hb4 hb5 HV HV1 HV2 HV3 HV4 H1 H2 H3 H4 H5 hL hBw
    go_loopw [10] (fun i wr => i = .int .i64 1 ∧ Below w5.heap.size w5 wr) (fun i wr => 0)
    case atStart => exact ⟨rfl, Below.refl _ _⟩
    case round =>
      obtain ⟨rfl, hB⟩ := hrel
      have hB1 := hBB.trans (hB.mono hBB.size)
      clear hL5 hBB
      go_wp2_with fail
      refine (alive_any _).mono ?_
      rintro e w6 ⟨rfl, hb6⟩
      go_wp2_with fail
      go_ret
      exact ⟨rfl, hB1.trans (hb6.mono hB1.size)⟩
  · have hy2 : (sy == 2) = false := by simpa using hy
    have HRI := Lib.hid hrise
    have H2 := Lib.hid h2; have H3 := Lib.hid h3; have H4 := Lib.hid h4; have H5 := Lib.hid h5
    clear h1 h2 h3 h4 h5 hV hR hk hsz hs hrise hz2 hy
    go_enter Try.func5, Try.ntmps5
    go_wp2_with fail
    refine H1.out.mono ?_
    rintro e w1 ⟨rfl, hb1⟩
    have hV1 := Var.below hb1 HV.out
    have hd0 := hV1.1
    have hd1 := hV1.2.1
    have HV1 := Lib.hid hV1
    clear hV1 hc0 hc1 hW0
    go_wp2_with fail
    refine (H2.out _ HV1.out).mono ?_
    rintro e w2 ⟨rfl, hb2⟩
    have hV2 := Var.below hb2 HV1.out
    have he0 := hV2.1
    have he1 := hV2.2.1
    have HV2 := Lib.hid hV2
    clear hV2 hd0 hd1
    go_wp2_with fail
    refine (H3.out _ HV2.out).mono ?_
    rintro e w3 ⟨rfl, hb3⟩
    have hV3 := Var.below hb3 HV2.out
    have hf0 := hV3.1
    have hf1 := hV3.2.1
    have HV3 := Lib.hid hV3
    clear hV3 he0 he1
    go_wp2_with fail
    refine (H4.out _ HV3.out).mono ?_
    rintro e w4 ⟨B, cap, rfl, hL, hb4⟩
    have hV4 := Var.below hb4 HV3.out
    have hg0 := hV4.1
    have hg1 := hV4.2.1
    have HV4 := Lib.hid hV4
    clear hV4 hf0 hf1
    go_wp2_with fail
    refine (H5.out _ HV4.out).mono ?_
    rintro e w5 ⟨rfl, hb5⟩
    have hL5 := hL.below hb5
    clear hg0 hg1
    go_wp2_with fail
    have hBB : Below w.heap.size w w5 := hBw.trans ((hb1.trans ((hb2.trans ((hb3.trans ((hb4.trans (hb5.mono hb4.size)).mono hb3.size)).mono hb2.size)).mono hb1.size)).mono hBw.size)
    clear hb1 hb2 hb3 hb4 hb5 HV HV1 HV2 HV3 HV4 H1 H2 H3 H4 H5 hL hBw
    go_loopw [10] (fun i wr => ∃ j : Nat, i = .int .i64 ((j : Int) + 1) ∧ Below w5.heap.size w5 wr) (fun i wr => L.length - (intOf i).toNat)
    case atStart => exact ⟨0, rfl, Below.refl _ _⟩
    case round =>
      obtain ⟨j, rfl, hB⟩ := hrel
      by_cases hlt : j + 1 < L.length
      · obtain ⟨b, off, rfl, hb, hcc⟩ := hL5.below hB (by omega)
        have hx1 : L[j + 1]? = some L[j + 1] := List.getElem?_eq_getElem hlt
        have hx0 : L[j]? = some L[j] := List.getElem?_eq_getElem (by omega)
        have hr1 := hcc _ _ hx1
        have hr0 := hcc _ _ hx0
        have hlo : L[j] < L[j + 1] := List.pairwise_iff_getElem.1 HRI.out j (j + 1) (by omega) hlt (by omega)
        generalize L[j + 1] = x1 at hr1 hlo
        generalize L[j] = x0 at hr0 hlo
        have hjl : j < 64 := by omega
        clear hx1 hx0 hcc
        go_wp2
        go_region
        all_goals go_wp2
        go_roundw
        case rel => exact ⟨j + 1, by go_num, hB.drew⟩
        case measure => simp [intOf]; omega
      · have hB1 := hBB.trans (hB.mono hBB.size)
        clear hL5 HRI hBB
        go_wp2_with fail
        refine (alive_any _).mono ?_
        rintro e w6 ⟨rfl, hb6⟩
        go_wp2_with fail
        go_ret
        exact ⟨rfl, hB1.trans (hb6.mono hB1.size)⟩

set_option maxRecDepth 100000 in
set_option maxHeartbeats 1000000 in
theorem walk_VoteFlows (v : Int) (ks : Fo) (A : Option Addr) (c : Nat) (w : World) (hl : ks.len ≤ c) (hc : c ≤ maxLen) (hk : KidsAt w w.heap.size A 0 ks) :
    Calls Try.prog 5 #[.agg #[.int .i64 v, .slice A ks.len c]] w fun e w' => e = .returned (.bool true) ∧ Below w.heap.size w w' := by
  cases hR : rightB v ks
  · obtain ⟨W0, hW0, hBw, hV⟩ := boxed_tree v ks A c w hk
    have hc0 := hV.1
    have hc1 := hV.2.1
    have h1 := right_at hR hl hc hV.2.2.2
    have H1 := Lib.hid h1
    clear h1 hV hR hk
    go_enter Try.func5, Try.ntmps5
    go_wp2_with (first
      | (go_at_call 15; refine H1.out.mono ?_; clear H1; rintro e w1 ⟨rfl, hb1⟩)
      | (go_at_call 16; refine (alive_any _).mono ?_; rintro e w2 ⟨rfl, hb2⟩))
    go_ret
    exact ⟨rfl, hBw.trans ((hb1.trans (hb2.mono hb1.size)).mono hBw.size)⟩
  · exact flows_ok v ks A c w hl hc hk hR
end Go.Proofs.Ytkafoeaffcbheaa
