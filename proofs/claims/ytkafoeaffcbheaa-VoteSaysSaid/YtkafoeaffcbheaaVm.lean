/- The walk of the law VoteMore. -/
import Derived.Test.YtkafoeaffcbheaaVx
import Derived.Test.YtkafoeaffcbheaaVz
import Derived.WalkMore
namespace Go.Proofs.Ytkafoeaffcbheaa
open Go.RowKit
set_option linter.unusedVariables false
/-- A cell of a block that both worlds share. -/
theorem _root_.Go.RowKit.Below.cellOf {B : Nat} {w w' : World} (h : Below B w w') {b o : Nat} {u : Value} (hb : b < B) (hc : w.cell? ⟨b, o, none⟩ = some u) : w'.cell? ⟨b, o, none⟩ = some u := (h.cell (p := ⟨b, o, none⟩) hb).trans hc
theorem reads_leaf (w : World) (v : Int) (t : TypeId) : Reads (w.alloc (.cells #[.int .i64 v, .slice none 0 0] t)) (w.heap.size + 1) 2 (some ⟨w.heap.size, 0, none⟩) 1 [.int .i64 v, .slice none 0 0] :=
  ⟨rfl, fun _ => ⟨_, rfl, by simp, fun j u hu => by
    match j with
    | 0 => simp at hu; subst hu; simp [Addr.add]
    | 1 => simp at hu; subst hu; simp [Addr.add]
    | j + 2 => simp at hu⟩⟩
theorem commits_false {v : Int} {ks : Fo} (h : rightB v ks = true) (hn : noT v ks = true) {A : Option Addr} {c : Nat} (w : World) (hl : ks.len ≤ c) (hc : c ≤ maxLen) (hk : KidsAt w w.heap.size A 0 ks) :
    Calls Try.prog 10 #[.agg #[.int .i64 v, .slice A ks.len c]] w fun e W' => e = .returned (.tuple #[.bool false, .int .i64 0]) ∧ Below w.heap.size w W' := by
  have := commits_yes h w hl hc hk
  rw [commits_iff h, hn] at this
  exact this
set_option maxRecDepth 100000 in
set_option maxHeartbeats 4000000 in
theorem more_ok (v : Int) (ks : Fo) (A : Option Addr) (c : Nat) (w : World) (hl : ks.len ≤ c) (hc : c ≤ maxLen) (hk : KidsAt w w.heap.size A 0 ks) (hR : rightB v ks = true) (hsm : ks.size + 1 < 64) :
    Calls Try.prog 9 #[.agg #[.int .i64 v, .slice A ks.len c]] w fun e w' => e = .returned (.bool true) ∧ Below w.heap.size w w' := by
  obtain ⟨W0, hW0, hBw, hV⟩ := boxed_tree v ks A c w hk
  obtain ⟨i0, hi, hz0, hz1, hz2⟩ := info_parts info_node
  have hc0 := hV.1
  have hc1 := hV.2.1
  have hlen := len_le_size ks
  have h1 := right_at hR hl hc hV.2.2.2
  have h2 : ∀ W, Var w.heap.size A c v ks W → Calls Try.prog 19 #[.agg #[.int .i64 v, .slice A ks.len c]] W fun e W' => e = .returned (.int .i64 ((ks.size : Int) + 1)) ∧ Below W.heap.size W W' := fun W hW => by
    have := count_any (ks.size + 1) v ks A c W (by omega) (by omega) hl hc hW.2.2.2
    rw [show ((ks.size + 1 : Nat) : Int) = (ks.size : Int) + 1 by omega] at this
    exact this
  have hRI := (right_iff v ks).1 hR
  have hR2 : rightB v (ks.app (.cons 3 .nil .nil)) = true := (right_iff _ _).2 ⟨by rw [size_app]; simp only [Fo.size]; omega, hRI.2.1, hRI.2.2.1, by rw [okD_app, hRI.2.2.2]; decide⟩
  have hN2 : noT v (ks.app (.cons 3 .nil .nil)) = true := by rw [noT_votes, votes_app]; simp [Fo.votes]
  have hR3 : rightB 3 ks = true := (right_iff _ _).2 ⟨hRI.1, by omega, by omega, hRI.2.2.2⟩
  have hN3 : noT 3 ks = true := by rw [noT_votes]; simp
  have hl2 : (ks.app (.cons 3 .nil .nil)).len = ks.len + 1 := by rw [len_app]; rfl
  have h3 : ∀ W A2 c2, (ks.app (.cons 3 .nil .nil)).len ≤ c2 → c2 ≤ maxLen → KidsAt W W.heap.size A2 0 (ks.app (.cons 3 .nil .nil)) →
      Calls Try.prog 10 #[.agg #[.int .i64 v, .slice A2 (ks.app (.cons 3 .nil .nil)).len c2]] W fun e W' => e = .returned (.tuple #[.bool false, .int .i64 0]) ∧ Below W.heap.size W W' := fun W A2 c2 a b k => commits_false hR2 hN2 W a b k
  have h4 : ∀ W, Var w.heap.size A c v ks W → Calls Try.prog 10 #[.agg #[.int .i64 3, .slice A ks.len c]] W fun e W' => e = .returned (.tuple #[.bool false, .int .i64 0]) ∧ Below W.heap.size W W' := fun W hW => commits_false hR3 hN3 W hl hc hW.2.2.2
  have hs64 : (ks.size : Int) < 63 := by omega
  have hlz : ks.len < 64 := by omega
  have H1 := Lib.hid h1; have H2 := Lib.hid h2; have H3 := Lib.hid h3; have H4 := Lib.hid h4; have HV := Lib.hid hV; have HL2 := Lib.hid hl2
  clear h1 h2 h3 h4 hV hR hk hR2 hN2 hR3 hN3 hRI hl2 hsm hlen
  go_enter Try.func9, Try.ntmps9
  go_wp2_with fail
  refine H1.out.mono ?_
  rintro e w1 ⟨rfl, hb1⟩
  have hV1 := Var.below hb1 HV.out
  have hd0 := hV1.1
  have hd1 := hV1.2.1
  have HV1 := Lib.hid hV1
  clear hV1 hc0 hc1 hW0
  go_wp2_with fail
  refine (H2.out _ HV1.out).mono ?_
  rintro e w2 ⟨rfl, hb2⟩
  have hV2 := Var.below hb2 HV1.out
  have he0 := hV2.1
  have he1 := hV2.2.1
  have hlt2 : w.heap.size < w2.heap.size := hV2.2.2.1
  have HV2 := Lib.hid hV2
  clear hV2 hd0 hd1
  have hVa : KidsAt (w2.alloc (.cells #[.int .i64 v, .slice none 0 0] 24)) w2.heap.size A 0 ks := HV2.out.2.2.2.keep (Nat.le_refl _) fun b o hb => (below_alloc (Below.refl _ w2) (.cells #[.int .i64 v, .slice none 0 0] 24)).cell (p := ⟨b, o, none⟩) hb
  obtain ⟨xs, hrow, hreads⟩ := reads_of_kids hVa
  have HR := Lib.hid hrow; have HA := Lib.hid hVa; have HRd := Lib.hid hreads
  clear hVa hrow hreads
  generalize hM : w2.heap.size = M at *
  go_wp2_with (at_builtin; go_must (refine wpList_append_kids _ rfl _ _ rfl (M + 1) M _ .nil ks [] xs rfl (World.ownsRow_nil _ _ _ _) rfl M A ks.len c rfl rfl HRd.out HR.out (by simp only [Fo.len]; omega) (by omega) (by simp [hM]) ?_); intro A3 c3 w3 hl3 hc3 hown3 hrow3 hk3 hb3; go_must (
    rw [show Fo.nil.app ks = ks from rfl]
    have hl3 : ks.len ≤ c3 := hl3
    have hown3 : w3.ownsRow (M + 1) 24 2 (.slice A3 ks.len c3) ks.len xs := hown3
    have hrow3 : RowOf w3 M ks xs := hrow3
    have hk3 : KidsAt w3 w3.heap.size A3 0 ks := hk3
    have hsz3 : M < w3.heap.size := by have := hb3.size; simp only [World.alloc, Array.size_push] at this; omega
    have f0 := hb3.cellOf (show w.heap.size < M + 1 by omega) (show (w2.alloc _).cell? ⟨w.heap.size, 0, none⟩ = some (.int .i64 v) from (World.cell?_alloc_lt w2 _ ⟨w.heap.size, 0, none⟩ (by simpa [hM] using hlt2)).trans he0)
    have f1 := hb3.cellOf (show w.heap.size < M + 1 by omega) (show (w2.alloc _).cell? ⟨w.heap.size, 1, none⟩ = some (.slice A ks.len c) from (World.cell?_alloc_lt w2 _ ⟨w.heap.size, 1, none⟩ (by simpa [hM] using hlt2)).trans he1)
    have f2 : w3.cell? ⟨M, 0, none⟩ = some (.int .i64 v) := hb3.cellOf (by omega) (by subst hM; simp)
    have f3 : w3.cell? ⟨M, 1, none⟩ = some (.slice none 0 0) := hb3.cellOf (by omega) (by subst hM; simp)
    have f4 : w3.frozen? ⟨M, 1, none⟩ = false := (hb3.frozen (p := ⟨M, 1, none⟩) (by simp)).trans (by subst hM; simp)
    obtain ⟨w4, hw4⟩ : ∃ w4, w3.setCell ⟨M, 1, none⟩ (.slice A3 ks.len c3) = w4 := ⟨_, rfl⟩
    have hb4 : Below M w3 w4 := hw4 ▸ (Below.refl M w3).setCell (Nat.le_refl _) _
    have hsz4 : w4.heap.size = w3.heap.size := by rw [← hw4]; simp
    have g0 := hb4.cellOf (by omega) f0
    have g1 := hb4.cellOf (by omega) f1
    have g2 : w4.cell? ⟨M, 0, none⟩ = some (.int .i64 v) := by rw [← hw4, World.cell?_setCell_other _ _ _ _ (by simp)]; exact f2
    have g3 : w4.cell? ⟨M, 1, none⟩ = some (.slice A3 ks.len c3) := by rw [← hw4]; exact World.cell?_setCell_same' w3 _ _ (by rw [f3]; rfl)
    have g4 : w4.frozen? ⟨M, 1, none⟩ = false := by rw [← hw4]; simp [f4]
    have hown4 : w4.ownsRow (M + 1) 24 2 (.slice A3 ks.len c3) ks.len xs := hw4 ▸ ownsRow_setCell_below hown3 (by simp) _
    have hrow4 : RowOf w4 M ks xs := hrow3.keep (Nat.le_refl _) fun b o hb => hb4.cell (p := ⟨b, o, none⟩) hb
    have hsum : (Fo.cons 3 .nil .nil).len = 1 := rfl
    have hbA : Below M w2 w4 := (((below_alloc (Below.refl _ w2) _).mono (by omega)).trans (hb3.mono (by omega))).trans hb4
    clear hrow3 hown3 hb3 hk3 hl3 hc3 f2 he0 he1
    go_wp2_with (at_builtin; go_must (refine wpList_append_kids _ rfl _ _ rfl (M + 1) M _ ks (.cons 3 .nil .nil) xs [.int .i64 3, .slice none 0 0] rfl (hown4.alloc _) (hrow4.keep (Nat.le_refl _) fun b o hb => World.cell?_alloc_lt w4 _ ⟨b, o, none⟩ (by simp only; omega)) (w3.heap.size + 1) (some ⟨w3.heap.size, 0, none⟩) 1 _ rfl rfl (hsz4 ▸ reads_leaf w4 3 _) ⟨none, 0, [], rfl, Nat.le_refl _, Nat.zero_le _, trivial, rfl⟩ (by simp only [Fo.len]; omega) (by omega) (by simp only [World.alloc, Array.size_push]; omega) ?_); intro A6 c6 w6 hl6 hc6 hown6 hrow6 hk6 hb6; go_must (
        have hsz6 : M < w6.heap.size := by have := hb6.size; simp only [World.alloc, Array.size_push] at this; omega
        have hlt6 : w.heap.size < w4.heap.size := by omega
        have k0 := hb6.cellOf (show w.heap.size < M + 1 by omega) ((World.cell?_alloc_lt w4 _ ⟨w.heap.size, 0, none⟩ hlt6).trans g0)
        have k1 := hb6.cellOf (show w.heap.size < M + 1 by omega) ((World.cell?_alloc_lt w4 _ ⟨w.heap.size, 1, none⟩ hlt6).trans g1)
        have k2 := hb6.cellOf (show M < M + 1 by omega) ((World.cell?_alloc_lt w4 _ ⟨M, 0, none⟩ (by simp only; omega)).trans g2)
        have k3 := hb6.cellOf (show M < M + 1 by omega) ((World.cell?_alloc_lt w4 _ ⟨M, 1, none⟩ (by simp only; omega)).trans g3)
        have k4 : w6.frozen? ⟨M, 1, none⟩ = false := (hb6.frozen (p := ⟨M, 1, none⟩) (by simp)).trans (((below_alloc (Below.refl _ w4) _).frozen (p := ⟨M, 1, none⟩) (by simp only; omega)).trans g4)
        obtain ⟨w7, hw7⟩ : ∃ w7, w6.setCell ⟨M, 1, none⟩ (.slice A6 (ks.app (.cons 3 .nil .nil)).len c6) = w7 := ⟨_, rfl⟩
        have hb7 : Below M w6 w7 := hw7 ▸ (Below.refl M w6).setCell (Nat.le_refl _) _
        have hsz7 : w7.heap.size = w6.heap.size := by rw [← hw7]; simp
        have q0 := hb7.cellOf (by omega) k0
        have q1 := hb7.cellOf (by omega) k1
        have q2 : w7.cell? ⟨M, 0, none⟩ = some (.int .i64 v) := by rw [← hw7, World.cell?_setCell_other _ _ _ _ (by simp)]; exact k2
        have q3 : w7.cell? ⟨M, 1, none⟩ = some (.slice A6 (ks.app (.cons 3 .nil .nil)).len c6) := by rw [← hw7]; exact World.cell?_setCell_same' w6 _ _ (by rw [k3]; rfl)
        have hown7 : w7.ownsRow (M + 1) 24 2 (.slice A6 (ks.app (.cons 3 .nil .nil)).len c6) (ks.app (.cons 3 .nil .nil)).len (xs ++ [.int .i64 3, .slice none 0 0]) := hw7 ▸ ownsRow_setCell_below hown6 (by simp) _
        have hrow7 : RowOf w7 M (ks.app (.cons 3 .nil .nil)) (xs ++ [.int .i64 3, .slice none 0 0]) := hrow6.keep (Nat.le_refl _) fun b o hb => hb7.cell (p := ⟨b, o, none⟩) hb
        obtain ⟨A7, c7, he7, -, -, hk7⟩ := kids_of_own hown7 hrow7 (by omega)
        injection he7 with e1 e2 e3
        subst e1 e3
        have hB7 : Below w2.heap.size w2 w7 := hM.symm ▸ ((hbA.trans (((below_alloc (Below.refl _ w4) _).mono (by omega)).trans (hb6.mono (by omega)))).trans hb7)
        have hV7 := Lib.hid (Var.below hB7 HV2.out)
        have C1 := Lib.hid (H3.out w7 _ _ hl6 hc6 hk7)
        clear hown7 hrow7 hown6 hrow6 hk6 hk7 hb6 hown4 hrow4 k2 f0 f1 f3 g0 g1 g2 g3
        go_wp2_with fail
        refine C1.out.mono ?_
        rintro e w8 ⟨rfl, hb8⟩
        have hV8 := Lib.hid (Var.below hb8 hV7.out)
        have z0 := hV8.out.1
        have z1 := hV8.out.2.1
        go_wp2_with fail
        refine (H4.out _ hV8.out).mono ?_
        rintro e w9 ⟨rfl, hb9⟩
        have hBB : Below w.heap.size w w9 := hBw.trans ((hb1.trans ((hb2.trans ((hB7.trans ((hb8.trans (hb9.mono hb8.size)).mono hB7.size)).mono hb2.size)).mono hb1.size)).mono hBw.size)
        clear hBw hb1 hb2 hB7 hb8 hb9 hV8 hV7 HV HV1 HV2 H1 H2 H3 H4 hbA hb4
        go_wp2_with fail
        refine (alive_any w9).mono ?_
        rintro e wz ⟨rfl, hbz⟩
        go_wp2_with fail
        go_ret
        exact ⟨rfl, hBB.trans (hbz.mono hBB.size)⟩))))

set_option maxRecDepth 100000 in
set_option maxHeartbeats 1000000 in
theorem walk_VoteMore (v : Int) (ks : Fo) (A : Option Addr) (c : Nat) (w : World) (hl : ks.len ≤ c) (hc : c ≤ maxLen) (hk : KidsAt w w.heap.size A 0 ks) :
    Calls Try.prog 9 #[.agg #[.int .i64 v, .slice A ks.len c]] w fun e w' => e = .returned (.bool true) ∧ Below w.heap.size w w' := by
  cases hR : rightB v ks
  · obtain ⟨W0, hW0, hBw, hV⟩ := boxed_tree v ks A c w hk
    have hc0 := hV.1
    have hc1 := hV.2.1
    have h1 := right_at hR hl hc hV.2.2.2
    have H1 := Lib.hid h1
    clear h1 hV hR hk
    go_enter Try.func9, Try.ntmps9
    go_wp2_with (first
      | (go_at_call 15; refine H1.out.mono ?_; clear H1; rintro e w1 ⟨rfl, hb1⟩)
      | (go_at_call 16; refine (alive_any _).mono ?_; rintro e w2 ⟨rfl, hb2⟩))
    go_ret
    exact ⟨rfl, hBw.trans ((hb1.trans (hb2.mono hb1.size)).mono hBw.size)⟩
  · by_cases hsm : ks.size + 1 < 64
    · exact more_ok v ks A c w hl hc hk hR hsm
    · obtain ⟨W0, hW0, hBw, hV⟩ := boxed_tree v ks A c w hk
      have hc0 := hV.1
      have hc1 := hV.2.1
      have h1 := right_at hR hl hc hV.2.2.2
      have hsz := right_size hR
      have h2 : ∀ W, Var w.heap.size A c v ks W → Calls Try.prog 19 #[.agg #[.int .i64 v, .slice A ks.len c]] W fun e W' => e = .returned (.int .i64 64) ∧ Below W.heap.size W W' := fun W hW => by
        have := count_any (ks.size + 1) v ks A c W (by omega) (by omega) hl hc hW.2.2.2
        rw [show ((ks.size + 1 : Nat) : Int) = 64 by omega] at this
        exact this
      have H1 := Lib.hid h1; have H2 := Lib.hid h2; have HV := Lib.hid hV
      clear h1 h2 hV hR hk hsm hsz
      go_enter Try.func9, Try.ntmps9
      go_wp2_with fail
      refine H1.out.mono ?_
      rintro e w1 ⟨rfl, hb1⟩
      have hV1 := Var.below hb1 HV.out
      have hd0 := hV1.1
      have hd1 := hV1.2.1
      have HV1 := Lib.hid hV1
      clear hV1 hc0 hc1 hW0
      go_wp2_with fail
      refine (H2.out _ HV1.out).mono ?_
      rintro e w2 ⟨rfl, hb2⟩
      go_wp2_with fail
      refine (alive_any w2).mono ?_
      rintro e wz ⟨rfl, hbz⟩
      go_wp2_with fail
      go_ret
      exact ⟨rfl, hBw.trans ((hb1.trans ((hb2.trans (hbz.mono hb2.size)).mono hb1.size)).mono hBw.size)⟩
end Go.Proofs.Ytkafoeaffcbheaa
