/- The walk of the law VoteSays. -/
import Derived.Test.YtkafoeaffcbheaaPd
import Derived.Test.YtkafoeaffcbheaaPe
import Derived.Test.YtkafoeaffcbheaaVw
import Derived.Test.YtkafoeaffcbheaaVf
import Derived.Test.YtkafoeaffcbheaaOi
import Derived.Deep.RegionHeld3
import Derived.Deep.RegionLaw
namespace Go.Proofs.Ytkafoeaffcbheaa
open Go.RowKit
set_option linter.unusedVariables false

/-- What all the calls of the law answer, at a tree and at its cut. -/
theorem answers (v : Int) (ks : Fo) (A A2 : Option Addr) (c c2 : Nat) (hl : ks.len ≤ c) (hc : c ≤ maxLen) (hl2 : (ks.trunc 199).1.len ≤ c2) (hc2 : c2 ≤ maxLen) :
    ∃ (sv er fl : Int) (cb R : Bool) (xs : List Int), cb = (sv == 1 || sv == 2) ∧ xs.length ≤ 200 ∧
      (∀ W, KidsAt W W.heap.size A 0 ks → Calls Try.prog 17 #[.agg #[.int .i64 v, .slice A ks.len c]] W fun e W' => e = .returned (.tuple #[.int .i64 sv, .int .i64 er]) ∧ Below W.heap.size W W') ∧
      (∀ W, KidsAt W W.heap.size A2 0 (ks.trunc 199).1 → Calls Try.prog 21 #[.agg #[.int .i64 v, .slice A2 (ks.trunc 199).1.len c2]] W fun e W' => e = .returned (.tuple #[.int .i64 sv, .int .i64 er]) ∧ Below W.heap.size W W') ∧
      (∀ W, KidsAt W W.heap.size A 0 ks → Calls Try.prog 10 #[.agg #[.int .i64 v, .slice A ks.len c]] W fun e W' => e = .returned (.tuple #[.bool cb, .int .i64 er]) ∧ Below W.heap.size W W') ∧
      (∀ W, KidsAt W W.heap.size A 0 ks → Calls Try.prog 11 #[.agg #[.int .i64 v, .slice A ks.len c]] W fun e W' => ∃ B cap, e = .returned (.tuple #[.slice B xs.length cap, .int .i64 er]) ∧ IntsAt W' W'.heap.size B xs ∧ Below W.heap.size W W') ∧
      (∀ W, KidsAt W W.heap.size A2 0 (ks.trunc 199).1 → Calls Try.prog 22 #[.agg #[.int .i64 v, .slice A2 (ks.trunc 199).1.len c2]] W fun e W' => ∃ B cap, e = .returned (.tuple #[.slice B xs.length cap, .int .i64 er]) ∧ IntsAt W' W'.heap.size B xs ∧ Below W.heap.size W W') ∧
      (∀ W, KidsAt W W.heap.size A 0 ks → Calls Try.prog 18 #[.agg #[.int .i64 v, .slice A ks.len c]] W fun e W' => e = .returned (.tuple #[.int .i64 fl, .int .i64 er]) ∧ Below W.heap.size W W') ∧
      (∀ W, KidsAt W W.heap.size A2 0 (ks.trunc 199).1 → Calls Try.prog 23 #[.agg #[.int .i64 v, .slice A2 (ks.trunc 199).1.len c2]] W fun e W' => e = .returned (.tuple #[.int .i64 fl, .int .i64 er]) ∧ Below W.heap.size W W') ∧
      (∀ W, KidsAt W W.heap.size A 0 ks → Calls Try.prog 15 #[.agg #[.int .i64 v, .slice A ks.len c]] W fun e W' => e = .returned (.bool R) ∧ Below W.heap.size W W') ∧
      (∀ W, KidsAt W W.heap.size A2 0 (ks.trunc 199).1 → Calls Try.prog 25 #[.agg #[.int .i64 v, .slice A2 (ks.trunc 199).1.len c2]] W fun e W' => e = .returned (.bool R) ∧ Below W.heap.size W W') := by
  obtain ⟨ht, hsame, hsz⟩ := trunc_right v ks
  cases hR : rightB v ks
  · have hR2 : rightB v (ks.trunc 199).1 = false := ht.trans hR
    refine ⟨0, 1, 0, false, false, [], rfl, by simp, fun W hk => says_no hR W hl hc hk, fun W hk => refSays_no hR2 hsz W hl2 hc2 hk, fun W hk => commits_no hR W hl hc hk,
      fun W hk => (told_no hR W hl hc hk).mono fun e W' ⟨he, hb⟩ => ⟨none, 0, he, fun hp => absurd hp (by simp), hb⟩,
      fun W hk => (refTold_no hR2 hsz W hl2 hc2 hk).mono fun e W' ⟨he, hb⟩ => ⟨none, 0, he, fun hp => absurd hp (by simp), hb⟩,
      fun W hk => flows_no hR W hl hc hk, fun W hk => refFlows_no hR2 hsz W hl2 hc2 hk, fun W hk => right_at hR hl hc hk, fun W hk => ?_⟩
    have := refRight_any v _ A2 c2 W hsz hl2 hc2 hk
    rw [hR2] at this
    exact this
  · have hks := hsame hR
    rw [hks] at hl2 hsz ⊢
    have hcases := says3_cases (v :: ks.votes)
    rw [← saysT_votes] at hcases
    have hlen : (toldL 0 (seen 1 v ks)).length ≤ 200 := by have := told_le hR; have := right_size hR; omega
    refine ⟨saysT v ks, 0, flowsT v ks, saysT v ks != 3, true, toldL 0 (seen 1 v ks), ?_, hlen, fun W hk => says_yes hR W hl hc hk, fun W hk => refSays_yes hR W hl2 hc2 hk, fun W hk => commits_yes hR W hl hc hk,
      fun W hk => told_at hR W hl hc hk, fun W hk => ?_, fun W hk => flows_yes hR W hl hc hk, fun W hk => refFlows_yes hR W hl2 hc2 hk, fun W hk => right_at hR hl hc hk, fun W hk => ?_⟩
    · rcases hcases with ⟨h, _⟩ | ⟨h, _⟩ | ⟨h, _⟩ <;> rw [h] <;> rfl
    · refine (refTold_yes hR W hl2 hc2 hk).mono fun e W' ⟨B, cap, he, _, _, hi, hb⟩ => ⟨B, cap, ?_, ?_, hb⟩
      · rw [← told_ref hR]; exact he
      · rw [← told_ref hR]; exact hi
    · have := refRight_any v _ A2 c2 W hsz hl2 hc2 hk
      rw [hR] at this
      exact this

/-- The law's two trees, in variables, and the list that came in. -/
def Two (N M : Nat) (A A2 : Option Addr) (c c2 : Nat) (v : Int) (ks kt : Fo) (LA : Option Addr) (ys : List Int) (w W : World) : Prop :=
  Var N A c v ks W ∧ Var M A2 c2 v kt W ∧ IntsAt W W.heap.size LA ys ∧ Below w.heap.size w W
section
variable {N M : Nat} {A A2 : Option Addr} {c c2 : Nat} {v : Int} {ks kt : Fo} {LA : Option Addr} {ys : List Int} {w W W' : World}
theorem Two.below (hb : Below W.heap.size W W') (h : Two N M A A2 c c2 v ks kt LA ys w W) : Two N M A A2 c c2 v ks kt LA ys w W' :=
  ⟨h.1.below hb, h.2.1.below hb, h.2.2.1.below hb, h.2.2.2.trans (hb.mono h.2.2.2.size)⟩
theorem Two.drew (h : Two N M A A2 c c2 v ks kt LA ys w W) : Two N M A A2 c c2 v ks kt LA ys w W.drew := h.below (below_drew (Below.refl _ W))
theorem Two.held (h : Two N M A A2 c c2 v ks kt LA ys w W) : (W.cell? ⟨N, 0, none⟩ = some (.int .i64 v) ∧ W.cell? ⟨N, 1, none⟩ = some (.slice A ks.len c) ∧ W.cell? ⟨M, 0, none⟩ = some (.int .i64 v) ∧ W.cell? ⟨M, 1, none⟩ = some (.slice A2 kt.len c2)) ∧ Two N M A A2 c c2 v ks kt LA ys w W :=
  ⟨⟨h.1.1, h.1.2.1, h.2.1.1, h.2.1.2.1⟩, h⟩
theorem Two.of (h : (W.cell? ⟨N, 0, none⟩ = some (.int .i64 v) ∧ W.cell? ⟨N, 1, none⟩ = some (.slice A ks.len c) ∧ W.cell? ⟨M, 0, none⟩ = some (.int .i64 v) ∧ W.cell? ⟨M, 1, none⟩ = some (.slice A2 kt.len c2)) ∧ Two N M A A2 c c2 v ks kt LA ys w W) : Two N M A A2 c c2 v ks kt LA ys w W := h.2
end

set_option maxRecDepth 100000 in
set_option maxHeartbeats 8000000 in
theorem walk_VoteSays (v : Int) (ks : Fo) (A : Option Addr) (c : Nat) (LA : Option Addr) (ys : List Int) (lc : Nat) (w : World) (hl : ks.len ≤ c) (hc : c ≤ maxLen) (hk : KidsAt w w.heap.size A 0 ks)
    (hyl : ys.length ≤ lc) (hyc : lc ≤ maxLen) (hys : IntsAt w w.heap.size LA ys) :
    Calls Try.prog 6 #[.agg #[.int .i64 v, .slice A ks.len c], .slice LA ys.length lc] w fun e w' => e = .returned (.bool true) ∧ Below w.heap.size w w' := by
  obtain ⟨W0, hW0, hBw, hV⟩ := boxed_tree v ks A c w hk
  have zW0 : W0.heap.size = w.heap.size + 1 := by rw [← hW0]; simp
  obtain ⟨W1, hW1⟩ : ∃ W1, W0.alloc (.cells #[.int .i64 200] 3) = W1 := ⟨_, rfl⟩
  have b1 : Below W0.heap.size W0 W1 := hW1 ▸ below_alloc (Below.refl _ _) _
  have zW1 : W1.heap.size = w.heap.size + 1 + 1 := by rw [← hW1]; simp [zW0]
  have hn := cell_new W0 (.int .i64 200) 3
  rw [hW1, zW0] at hn
  have hV1 := hV.below b1
  have hB1 : Below w.heap.size w W1 := hBw.trans (b1.mono hBw.size)
  have hk1 : KidsAt W1 w.heap.size A 0 ks := hk.keep (Nat.le_refl _) fun b o hb => hB1.cell (p := ⟨b, o, none⟩) hb
  have has := as_any (ks.size + 1) v ks A c w.heap.size (w.heap.size + 1) 199 W1 (by omega) (by omega) hl hc hk1 (by omega) (by omega) hn.1 hn.2
  have hd0 := hV1.1
  have hd1 := hV1.2.1
  have HAS := Lib.hid has; have HB1 := Lib.hid hB1; have HK1 := Lib.hid hk1; have HYS := Lib.hid hys; have HV1 := Lib.hid hV1
  have hyl0 := hyl
  clear has hB1 hk1 hV hV1 hBw b1 hn hk hys
  go_enter Try.func6, Try.ntmps6
  go_wp2_with fail
  refine HAS.out.mono ?_
  rintro e w2 ⟨A2, c2, rfl, hl2, hc2, hk2, -, -, hg⟩
  have hB2 : Below w.heap.size w w2 := HB1.out.grown hg (by omega) fun k e => by injection e with e; omega
  have hVa : Var w.heap.size A c v ks w2 := ⟨hg.cell hd0 (by simp), hg.cell hd1 (by simp), by have := hg.size; omega, HK1.out.keep (by have := hg.size; omega) fun b o hb => World.cell?_of_block (a := ⟨b, o, none⟩) (hg.block b (by omega) (by simp; omega))⟩
  have hys2 : IntsAt w2 w2.heap.size LA ys := IntsAt.below hB2 HYS.out
  have hk3 : KidsAt w2 w2.heap.size A2 0 (ks.trunc 199).1 := hk2.at_ fun b hb => hb.2
  obtain ⟨sv, er, fl, cb, R, xs, hcb, hxl, a1, a2, a3, a4, a5, a6, a7, a8, a9⟩ := answers v ks A A2 c c2 hl hc hl2 hc2
  generalize (ks.trunc 199).1 = kt at *
  have b3 := below_alloc (Below.refl _ w2) (.cells #[.int .i64 v, .slice A2 kt.len c2] 44)
  have n3 := new_two w2 v (.slice A2 kt.len c2) 44
  have hT : Two w.heap.size w2.heap.size A A2 c c2 v ks kt LA ys w (w2.alloc (.cells #[.int .i64 v, .slice A2 kt.len c2] 44)) :=
    ⟨hVa.below b3, ⟨n3.1.1, n3.1.2, by simp, hk3.keep b3.size fun b o hb => b3.cell (p := ⟨b, o, none⟩) hb⟩, hys2.below b3, hB2.trans (b3.mono hB2.size)⟩
  have s1 : ∀ W, Two w.heap.size w2.heap.size A A2 c c2 v ks kt LA ys w W → Calls Try.prog 26 #[.slice LA ys.length lc] W fun e W' => e = .returned (.int .i64 (says3F ys)) ∧ Below W.heap.size W W' := fun W hW =>
    (says3_any LA lc ys W hW.2.2.1 (by omega)).mono fun e W' ⟨he, hw⟩ => ⟨he, hw ▸ Below.refl _ _⟩
  have s2 : ∀ W, Two w.heap.size w2.heap.size A A2 c c2 v ks kt LA ys w W → Calls Try.prog 27 #[.slice LA ys.length lc] W fun e W' => e = .returned (.int .i64 (says3F ys)) ∧ Below W.heap.size W W' := fun W hW =>
    (refSays3_any LA lc ys W hW.2.2.1 (by omega)).mono fun e W' ⟨he, hw⟩ => ⟨he, hw ▸ Below.refl _ _⟩
  generalize says3F ys = s3v at s1 s2
  have A1 := Lib.hid a1; have A2' := Lib.hid a2; have A3 := Lib.hid a3; have A4 := Lib.hid a4; have A5 := Lib.hid a5; have A6 := Lib.hid a6; have A7 := Lib.hid a7; have A8 := Lib.hid a8; have A9 := Lib.hid a9
  have S1 := Lib.hid s1; have S2 := Lib.hid s2; have HCB := Lib.hid hcb; have HXL := Lib.hid hxl
  have HT := Lib.hid hT
  clear a1 a2 a3 a4 a5 a6 a7 a8 a9 s1 s2 hcb hxl hT n3 b3 hk3 hys2 hVa hB2 hg hk2 HAS HB1 HK1 HYS HV1 hd0 hd1 hW0 hW1
  by_cases hy : ys.length ≤ 1000
  · have hy1 : ¬ (1000 : Int) < (ys.length : Int) := by omega
    have x0 := HT.out.1.1
    have x1 := HT.out.1.2.1
    go_wp2_with fail
    refine (A1.out _ HT.out.1.2.2.2).mono ?_
    rintro e w4 ⟨rfl, hb4⟩
    have h4 := Lib.hid (HT.out.below hb4)
    have y0 := h4.out.2.1.1
    have y1 := h4.out.2.1.2.1
    clear x0 x1 hb4 A1
    go_wp2_with fail
    refine (A2'.out _ h4.out.2.1.2.2.2).mono ?_
    rintro e w5 ⟨rfl, hb5⟩
    have h5 := Lib.hid (h4.out.below hb5)
    have x0 := h5.out.1.1
    have x1 := h5.out.1.2.1
    clear y0 y1 hb5 A2' h4
    go_wp2_with fail
    refine (A3.out _ h5.out.1.2.2.2).mono ?_
    rintro e w6 ⟨rfl, hb6⟩
    have h6 := Lib.hid (h5.out.below hb6)
    have y0 := h6.out.1.1
    have y1 := h6.out.1.2.1
    clear x0 x1 hb6 A3 h5
    go_wp2_with fail
    refine (A4.out _ h6.out.1.2.2.2).mono ?_
    rintro e w7 ⟨B1, cp1, rfl, hi1, hb7⟩
    have h7 := Lib.hid (h6.out.below hb7)
    have x0 := h7.out.2.1.1
    have x1 := h7.out.2.1.2.1
    have I1 := Lib.hid hi1
    clear y0 y1 hb7 A4 h6 hi1
    go_wp2_with fail
    refine (A5.out _ h7.out.2.1.2.2.2).mono ?_
    rintro e w8 ⟨B2, cp2, rfl, hi2, hb8⟩
    have h8 := Lib.hid (h7.out.below hb8)
    have y0 := h8.out.1.1
    have y1 := h8.out.1.2.1
    have J1 := Lib.hid (I1.out.below hb8)
    have J2 := Lib.hid hi2
    clear x0 x1 hb8 A5 h7 hi2 I1
    go_wp2_with fail
    refine (A6.out _ h8.out.1.2.2.2).mono ?_
    rintro e w9 ⟨rfl, hb9⟩
    have h9 := Lib.hid (h8.out.below hb9)
    have x0 := h9.out.2.1.1
    have x1 := h9.out.2.1.2.1
    have I1 := Lib.hid (J1.out.below hb9)
    have I2 := Lib.hid (J2.out.below hb9)
    clear y0 y1 hb9 A6 h8 J1 J2
    go_wp2_with fail
    refine (A7.out _ h9.out.2.1.2.2.2).mono ?_
    rintro e w10 ⟨rfl, hb10⟩
    have h10 := Lib.hid (h9.out.below hb10)
    have J1 := Lib.hid (I1.out.below hb10)
    have J2 := Lib.hid (I2.out.below hb10)
    clear x0 x1 hb10 A7 h9 I1 I2
    have ways : sv = 1 ∨ sv = 2 ∨ (sv == 1) = false ∧ (sv == 2) = false := by
      by_cases h1 : sv = 1
      · exact .inl h1
      · by_cases h2 : sv = 2
        · exact .inr (.inl h2)
        · exact .inr (.inr ⟨by simpa using h1, by simpa using h2⟩)
    have fin : ∀ W e, Two w.heap.size w2.heap.size A A2 c c2 v ks kt LA ys w W → e = Ending.returned (.bool true) → e = Ending.returned (.bool true) ∧ Below w.heap.size w W := fun W e h he => ⟨he, h.2.2.2⟩
    have FIN := Lib.hid fin
    clear fin
    rcases ways with h1 | h1 | ⟨h1, h2⟩
    · subst h1
      obtain rfl : cb = true := HCB.out
      clear HCB
      go_wp2_with fail
      refine (ints_any B1 cp1 B2 cp2 xs w10 J1.out J2.out (by have := HXL.out; omega)).mono ?_
      rintro e w11 ⟨rfl, hb11⟩
      have h11 := Lib.hid (h10.out.below hb11)
      have x0 := h11.out.1.1
      have x1 := h11.out.1.2.1
      have x2 := h11.out.2.1.1
      have x3 := h11.out.2.1.2.1
      clear hb11 h10 J1 J2
      go_wp2_with fail
      go_region_held3 (fun W => (W.cell? ⟨w.heap.size, 0, none⟩ = some (.int .i64 v) ∧ W.cell? ⟨w.heap.size, 1, none⟩ = some (.slice A ks.len c) ∧ W.cell? ⟨w2.heap.size, 0, none⟩ = some (.int .i64 v) ∧ W.cell? ⟨w2.heap.size, 1, none⟩ = some (.slice A2 kt.len c2)) ∧ Two w.heap.size w2.heap.size A A2 c c2 v ks kt LA ys w W)
        (first | exact hs20.held | exact h11.out.drew.held)
        (first
          | (go_at_call 16; refine (alive_any _).mono ?_; rintro e w20 ⟨rfl, hb20⟩; have hs20 := (Two.of (N := w.heap.size) (M := w2.heap.size) (A := A) (A2 := A2) (c := c) (c2 := c2) (v := v) (ks := ks) (kt := kt) (LA := LA) (ys := ys) (w := w) (by assumption)).below hb20)
          | (go_at_call 15; refine (A8.out _ (Two.of (N := w.heap.size) (M := w2.heap.size) (A := A) (A2 := A2) (c := c) (c2 := c2) (v := v) (ks := ks) (kt := kt) (LA := LA) (ys := ys) (w := w) (by assumption)).1.2.2.2).mono ?_; rintro e w20 ⟨rfl, hb20⟩; have hs20 := (Two.of (N := w.heap.size) (M := w2.heap.size) (A := A) (A2 := A2) (c := c) (c2 := c2) (v := v) (ks := ks) (kt := kt) (LA := LA) (ys := ys) (w := w) (by assumption)).below hb20)
          | (go_at_call 25; refine (A9.out _ (Two.of (N := w.heap.size) (M := w2.heap.size) (A := A) (A2 := A2) (c := c) (c2 := c2) (v := v) (ks := ks) (kt := kt) (LA := LA) (ys := ys) (w := w) (by assumption)).2.1.2.2.2).mono ?_; rintro e w20 ⟨rfl, hb20⟩; have hs20 := (Two.of (N := w.heap.size) (M := w2.heap.size) (A := A) (A2 := A2) (c := c) (c2 := c2) (v := v) (ks := ks) (kt := kt) (LA := LA) (ys := ys) (w := w) (by assumption)).below hb20)
          | (go_at_call 26; refine (S1.out _ (Two.of (by assumption))).mono ?_; rintro e w20 ⟨rfl, hb20⟩; have hs20 := (Two.of (N := w.heap.size) (M := w2.heap.size) (A := A) (A2 := A2) (c := c) (c2 := c2) (v := v) (ks := ks) (kt := kt) (LA := LA) (ys := ys) (w := w) (by assumption)).below hb20)
          | (go_at_call 27; refine (S2.out _ (Two.of (by assumption))).mono ?_; rintro e w20 ⟨rfl, hb20⟩; have hs20 := (Two.of (N := w.heap.size) (M := w2.heap.size) (A := A) (A2 := A2) (c := c) (c2 := c2) (v := v) (ks := ks) (kt := kt) (LA := LA) (ys := ys) (w := w) (by assumption)).below hb20))
      all_goals go_wp2_with fail
      all_goals go_ret
      all_goals exact FIN.out _ _ (Two.of (by assumption)) rfl
    · subst h1
      obtain rfl : cb = true := HCB.out
      clear HCB
      go_wp2_with fail
      refine (ints_any B1 cp1 B2 cp2 xs w10 J1.out J2.out (by have := HXL.out; omega)).mono ?_
      rintro e w11 ⟨rfl, hb11⟩
      have h11 := Lib.hid (h10.out.below hb11)
      have x0 := h11.out.1.1
      have x1 := h11.out.1.2.1
      have x2 := h11.out.2.1.1
      have x3 := h11.out.2.1.2.1
      clear hb11 h10 J1 J2
      go_wp2_with fail
      go_region_held3 (fun W => (W.cell? ⟨w.heap.size, 0, none⟩ = some (.int .i64 v) ∧ W.cell? ⟨w.heap.size, 1, none⟩ = some (.slice A ks.len c) ∧ W.cell? ⟨w2.heap.size, 0, none⟩ = some (.int .i64 v) ∧ W.cell? ⟨w2.heap.size, 1, none⟩ = some (.slice A2 kt.len c2)) ∧ Two w.heap.size w2.heap.size A A2 c c2 v ks kt LA ys w W)
        (first | exact hs20.held | exact h11.out.drew.held)
        (first
          | (go_at_call 16; refine (alive_any _).mono ?_; rintro e w20 ⟨rfl, hb20⟩; have hs20 := (Two.of (N := w.heap.size) (M := w2.heap.size) (A := A) (A2 := A2) (c := c) (c2 := c2) (v := v) (ks := ks) (kt := kt) (LA := LA) (ys := ys) (w := w) (by assumption)).below hb20)
          | (go_at_call 15; refine (A8.out _ (Two.of (N := w.heap.size) (M := w2.heap.size) (A := A) (A2 := A2) (c := c) (c2 := c2) (v := v) (ks := ks) (kt := kt) (LA := LA) (ys := ys) (w := w) (by assumption)).1.2.2.2).mono ?_; rintro e w20 ⟨rfl, hb20⟩; have hs20 := (Two.of (N := w.heap.size) (M := w2.heap.size) (A := A) (A2 := A2) (c := c) (c2 := c2) (v := v) (ks := ks) (kt := kt) (LA := LA) (ys := ys) (w := w) (by assumption)).below hb20)
          | (go_at_call 25; refine (A9.out _ (Two.of (N := w.heap.size) (M := w2.heap.size) (A := A) (A2 := A2) (c := c) (c2 := c2) (v := v) (ks := ks) (kt := kt) (LA := LA) (ys := ys) (w := w) (by assumption)).2.1.2.2.2).mono ?_; rintro e w20 ⟨rfl, hb20⟩; have hs20 := (Two.of (N := w.heap.size) (M := w2.heap.size) (A := A) (A2 := A2) (c := c) (c2 := c2) (v := v) (ks := ks) (kt := kt) (LA := LA) (ys := ys) (w := w) (by assumption)).below hb20)
          | (go_at_call 26; refine (S1.out _ (Two.of (by assumption))).mono ?_; rintro e w20 ⟨rfl, hb20⟩; have hs20 := (Two.of (N := w.heap.size) (M := w2.heap.size) (A := A) (A2 := A2) (c := c) (c2 := c2) (v := v) (ks := ks) (kt := kt) (LA := LA) (ys := ys) (w := w) (by assumption)).below hb20)
          | (go_at_call 27; refine (S2.out _ (Two.of (by assumption))).mono ?_; rintro e w20 ⟨rfl, hb20⟩; have hs20 := (Two.of (N := w.heap.size) (M := w2.heap.size) (A := A) (A2 := A2) (c := c) (c2 := c2) (v := v) (ks := ks) (kt := kt) (LA := LA) (ys := ys) (w := w) (by assumption)).below hb20))
      all_goals go_wp2_with fail
      all_goals go_ret
      all_goals exact FIN.out _ _ (Two.of (by assumption)) rfl
    · obtain rfl : cb = false := by rw [HCB.out, h1, h2]; rfl
      clear HCB
      go_wp2_with fail
      refine (ints_any B1 cp1 B2 cp2 xs w10 J1.out J2.out (by have := HXL.out; omega)).mono ?_
      rintro e w11 ⟨rfl, hb11⟩
      have h11 := Lib.hid (h10.out.below hb11)
      have x0 := h11.out.1.1
      have x1 := h11.out.1.2.1
      have x2 := h11.out.2.1.1
      have x3 := h11.out.2.1.2.1
      clear hb11 h10 J1 J2
      go_wp2_with fail
      go_region_held3 (fun W => (W.cell? ⟨w.heap.size, 0, none⟩ = some (.int .i64 v) ∧ W.cell? ⟨w.heap.size, 1, none⟩ = some (.slice A ks.len c) ∧ W.cell? ⟨w2.heap.size, 0, none⟩ = some (.int .i64 v) ∧ W.cell? ⟨w2.heap.size, 1, none⟩ = some (.slice A2 kt.len c2)) ∧ Two w.heap.size w2.heap.size A A2 c c2 v ks kt LA ys w W)
        (first | exact hs20.held | exact h11.out.drew.held)
        (first
          | (go_at_call 16; refine (alive_any _).mono ?_; rintro e w20 ⟨rfl, hb20⟩; have hs20 := (Two.of (N := w.heap.size) (M := w2.heap.size) (A := A) (A2 := A2) (c := c) (c2 := c2) (v := v) (ks := ks) (kt := kt) (LA := LA) (ys := ys) (w := w) (by assumption)).below hb20)
          | (go_at_call 15; refine (A8.out _ (Two.of (N := w.heap.size) (M := w2.heap.size) (A := A) (A2 := A2) (c := c) (c2 := c2) (v := v) (ks := ks) (kt := kt) (LA := LA) (ys := ys) (w := w) (by assumption)).1.2.2.2).mono ?_; rintro e w20 ⟨rfl, hb20⟩; have hs20 := (Two.of (N := w.heap.size) (M := w2.heap.size) (A := A) (A2 := A2) (c := c) (c2 := c2) (v := v) (ks := ks) (kt := kt) (LA := LA) (ys := ys) (w := w) (by assumption)).below hb20)
          | (go_at_call 25; refine (A9.out _ (Two.of (N := w.heap.size) (M := w2.heap.size) (A := A) (A2 := A2) (c := c) (c2 := c2) (v := v) (ks := ks) (kt := kt) (LA := LA) (ys := ys) (w := w) (by assumption)).2.1.2.2.2).mono ?_; rintro e w20 ⟨rfl, hb20⟩; have hs20 := (Two.of (N := w.heap.size) (M := w2.heap.size) (A := A) (A2 := A2) (c := c) (c2 := c2) (v := v) (ks := ks) (kt := kt) (LA := LA) (ys := ys) (w := w) (by assumption)).below hb20)
          | (go_at_call 26; refine (S1.out _ (Two.of (by assumption))).mono ?_; rintro e w20 ⟨rfl, hb20⟩; have hs20 := (Two.of (N := w.heap.size) (M := w2.heap.size) (A := A) (A2 := A2) (c := c) (c2 := c2) (v := v) (ks := ks) (kt := kt) (LA := LA) (ys := ys) (w := w) (by assumption)).below hb20)
          | (go_at_call 27; refine (S2.out _ (Two.of (by assumption))).mono ?_; rintro e w20 ⟨rfl, hb20⟩; have hs20 := (Two.of (N := w.heap.size) (M := w2.heap.size) (A := A) (A2 := A2) (c := c) (c2 := c2) (v := v) (ks := ks) (kt := kt) (LA := LA) (ys := ys) (w := w) (by assumption)).below hb20))
      all_goals go_wp2_with fail
      all_goals go_ret
      all_goals exact FIN.out _ _ (Two.of (by assumption)) rfl
  · have hy1 : (1000 : Int) < (ys.length : Int) := by omega
    go_wp2_with fail
    refine (alive_any _).mono ?_
    rintro e w4 ⟨rfl, hb4⟩
    go_wp2_with fail
    go_ret
    exact ⟨rfl, (HT.out.below hb4).2.2.2⟩
end Go.Proofs.Ytkafoeaffcbheaa
