/- The walk of the law VoteLess. -/
import Derived.Test.YtkafoeaffcbheaaVg
import Derived.Deep.CutRange
import Derived.Deep.RegionLaw
import Derived.Deep.RegionHeld3
namespace Go.Proofs.Ytkafoeaffcbheaa
open Go.RowKit
set_option linter.unusedVariables false

set_option maxRecDepth 100000 in
set_option maxHeartbeats 4000000 in
theorem less_ok (v : Int) (ks : Fo) (A : Option Addr) (c : Nat) (j : Nat) (w : World) (hl : ks.len ≤ c) (hc : c ≤ maxLen) (hk : KidsAt w w.heap.size A 0 ks) (hR : rightB v ks = true) (hj : j < ks.len) :
    Calls Try.prog 8 #[.agg #[.int .i64 v, .slice A ks.len c], .int .i64 j] w fun e w' => e = .returned (.bool true) ∧ Below w.heap.size w w' := by
  obtain ⟨W0, hW0, hBw, hV⟩ := boxed_tree v ks A c w hk
  have hc0 := hV.1
  have hc1 := hV.2.1
  have hsz := right_size hR
  have hlen := len_le_size ks
  obtain ⟨kv, k, b, off, ck, Ak, hjk, rfl, hb, k0, k1, hkl, hkc, hkk⟩ := hV.2.2.2.get hj
  rw [Nat.zero_add] at k0 k1
  have hsplit : (Fo.of (ks.list.take j)).app (.cons kv k (Fo.of (ks.list.drop (j + 1)))) = ks := split_at hjk
  have hall := less (v := v) (by rw [hsplit]; exact hR)
  rw [hsplit] at hall
  obtain ⟨hkr, hur, hXY, h2⟩ := hall
  have hlu : ((Fo.of (ks.list.take j)).app (Fo.of (ks.list.drop (j + 1)))).len + 1 = ks.len := by rw [len_app, len_of, len_of, List.length_take, List.length_drop, len_list]; omega
  have hla : (Fo.of (ks.list.take j)).len = j := by rw [len_of, List.length_take, len_list]; omega
  have hlb : (Fo.of (ks.list.drop (j + 1))).len = ks.len - (j + 1) := by rw [len_of, List.length_drop, len_list]
  have hK : KidIs b (off + j * 2) kv Ak ck k W0 := ⟨k0, k1, hb, hkk⟩
  have hksz := right_size hkr
  have hX : flowsT v ks ≤ 1000 := by
    have := told_le hR
    unfold flowsT
    omega
  have h1 := right_at hR hl hc hV.2.2.2
  have h3 : ∀ W, KidIs b (off + j * 2) kv Ak ck k W → Calls Try.prog 17 #[.agg #[.int .i64 kv, .slice Ak k.len ck]] W fun e W' => e = .returned (.tuple #[.int .i64 (saysT kv k), .int .i64 0]) ∧ Below W.heap.size W W' := fun W hW =>
    says_yes hkr W hkl hkc hW.2.2.2
  have h4 : ∀ W, Var w.heap.size (some ⟨b, off, none⟩) c v ks W → Calls Try.prog 10 #[.agg #[.int .i64 v, .slice (some ⟨b, off, none⟩) ks.len c]] W fun e W' => e = .returned (.tuple #[.bool (!noT v ks), .int .i64 0]) ∧ Below W.heap.size W W' := fun W hW => by
    rw [← commits_iff hR]; exact commits_yes hR W hl hc hW.2.2.2
  have h5 : ∀ W, Var w.heap.size (some ⟨b, off, none⟩) c v ks W → Calls Try.prog 18 #[.agg #[.int .i64 v, .slice (some ⟨b, off, none⟩) ks.len c]] W fun e W' => e = .returned (.tuple #[.int .i64 (flowsT v ks), .int .i64 0]) ∧ Below W.heap.size W W' := fun W hW =>
    flows_yes hR W hl hc hW.2.2.2
  have h6 : ∀ W, KidIs b (off + j * 2) kv Ak ck k W → Calls Try.prog 19 #[.agg #[.int .i64 kv, .slice Ak k.len ck]] W fun e W' => e = .returned (.int .i64 ((k.size : Int) + 1)) ∧ Below W.heap.size W W' := fun W hW => by
    have := count_any (k.size + 1) kv k Ak ck W (by omega) (by omega) hkl hkc hW.2.2.2
    rw [show ((k.size + 1 : Nat) : Int) = (k.size : Int) + 1 by omega] at this
    exact this
  generalize hua : Fo.of (ks.list.take j) = ua at *
  generalize hub : Fo.of (ks.list.drop (j + 1)) = ub at *
  have h7 : ∀ W A2 c2, (ua.app ub).len ≤ c2 → c2 ≤ maxLen → KidsAt W W.heap.size A2 0 (ua.app ub) →
      Calls Try.prog 10 #[.agg #[.int .i64 v, .slice A2 (ua.app ub).len c2]] W fun e W' => e = .returned (.tuple #[.bool (!noT v (ua.app ub)), .int .i64 0]) ∧ Below W.heap.size W W' := fun W A2 c2 a b k => by
    rw [← commits_iff hur]; exact commits_yes hur W a b k
  have h8 : ∀ W A2 c2, (ua.app ub).len ≤ c2 → c2 ≤ maxLen → KidsAt W W.heap.size A2 0 (ua.app ub) →
      Calls Try.prog 18 #[.agg #[.int .i64 v, .slice A2 (ua.app ub).len c2]] W fun e W' => e = .returned (.tuple #[.int .i64 (flowsT v (ua.app ub)), .int .i64 0]) ∧ Below W.heap.size W W' := fun W A2 c2 a b k => flows_yes hur W a b k
  have hfin : (flowsT v (ua.app ub) : Int) < flowsT v ks ∧ (flowsT v ks : Int) ≤ 1000 ∧ 0 ≤ (flowsT v (ua.app ub) : Int) ∧ (saysT kv k = 2 → (!noT v ks) = (!noT v (ua.app ub)) ∧ (flowsT v ks : Int) = flowsT v (ua.app ub) + 2 * ((k.size : Int) + 1)) := by
    refine ⟨by omega, by omega, by omega, fun e => ⟨by rw [(h2 e).1], by have := (h2 e).2; omega⟩⟩
  generalize (flowsT v ks : Int) = X at *
  generalize (flowsT v (ua.app ub) : Int) = Y at *
  generalize (!noT v ks) = b1 at *
  generalize (!noT v (ua.app ub)) = b2 at *
  generalize saysT kv k = s at *
  obtain ⟨hf1, hf2, hf3, hf4⟩ := hfin
  have hjl : (j : Int) < ks.len := by omega
  have hl64 : ks.len < 64 := by omega
  have hj0 : (0 : Int) ≤ (j : Int) := by omega
  have hjc : (j : Int) ≤ (c : Int) := by omega
  have hlc : (ks.len : Int) ≤ (c : Int) := by omega
  have hj1 : (j : Int) + 1 ≤ (ks.len : Int) := by omega
  have hks64 : (k.size : Int) < 64 := by omega
  have H1 := Lib.hid h1; have H3 := Lib.hid h3; have H4 := Lib.hid h4; have H5 := Lib.hid h5; have H6 := Lib.hid h6; have H7 := Lib.hid h7; have H8 := Lib.hid h8
  have HV := Lib.hid hV; have HK := Lib.hid hK; have HF := Lib.hid hf4; have HUA := Lib.hid hua; have HUB := Lib.hid hub; have HLU := Lib.hid hlu; have HLA := Lib.hid hla; have HLB := Lib.hid hlb
  clear h1 h3 h4 h5 h6 h7 h8 hV hK hf4 hua hub hlu hla hlb hR hk hur hkr h2 hXY hX hksz hlen hsplit hjk hkk k0 k1
  go_enter Try.func8, Try.ntmps8
  go_wp2_with fail
  refine H1.out.mono ?_
  rintro e w1 ⟨rfl, hb1⟩
  have hV1 := Var.below hb1 HV.out
  have hK1 := KidIs.below hb1 HK.out
  have hd0 := hV1.1
  have hd1 := hV1.2.1
  have hd2 := hK1.1
  have hd3 := hK1.2.1
  have HV1 := Lib.hid hV1
  have HK1 := Lib.hid hK1
  clear hV1 hc0 hc1 hW0 hK1
  go_wp2_with fail
  refine (H3.out _ HK1.out).mono ?_
  rintro e w2 ⟨rfl, hb2⟩
  have hV2 := Var.below hb2 HV1.out
  have he0 := hV2.1
  have he1 := hV2.2.1
  have hlt2 : w.heap.size < w2.heap.size := hV2.2.2.1
  have HV2 := Lib.hid hV2
  have HK2 := Lib.hid (KidIs.below hb2 HK1.out)
  clear hV2 hd0 hd1 hd2 hd3
  have hB0 := Built.zero hlt2 he0 he1
  obtain ⟨xs, hrow, hreads⟩ := reads_of_kids HV2.out.2.2.2
  have hR1 := hreads.take (k := j) (by omega)
  have hR2 := hrow.take j
  have hR3 := hreads.cut (k := j + 1) (cap := c) (by omega) hl
  rw [show (if c = j + 1 then some (⟨b, off, none⟩ : Addr) else (some (⟨b, off, none⟩ : Addr)).map (·.add ((j + 1) * 2))) = (if c = j + 1 then some ⟨b, off, none⟩ else some ⟨b, off + (j + 1) * 2, none⟩) by rw [Option.map_some, Go.WideShapes.add_plain]] at hR3
  obtain ⟨A9, hA9, hR3⟩ : ∃ A9, (if c = j + 1 then some (⟨b, off, none⟩ : Addr) else some ⟨b, off + (j + 1) * 2, none⟩) = A9 ∧ Reads w2 w2.heap.size 2 A9 (ks.len - (j + 1)) (xs.drop ((j + 1) * 2)) := ⟨_, rfl, hR3⟩
  have hR4 := hrow.drop (j + 1)
  rw [HUA.out] at hR2
  rw [HUB.out] at hR4
  generalize hM : w2.heap.size = M at *
  go_wp2_with fail
  generalize w2.alloc (.cells #[.int .i64 v, .slice none 0 0] 24) = wa at *
  have HB0 := Lib.hid hB0
  have HR1 := Lib.hid hR1; have HR2 := Lib.hid hR2; have HR3 := Lib.hid hR3; have HR4 := Lib.hid hR4
  have f1 := hB0.2.1
  have f3 : wa.cell? ⟨M, 1, none⟩ = some (.slice none 0 0) := hB0.2.2.2.1
  have f4 := hB0.2.2.2.2.1
  have hfB := Lib.hid hB0.2.2.2.2.2.2.2.1
  clear hrow hreads hR1 hR2 hR3 hR4 hB0 he0 he1
  go_cut [] from 43 to 50 (fun wx => ∃ A3 c3, Built w.heap.size M v (some ⟨b, off, none⟩) ks.len c ua (xs.take (j * 2)) w2 wx A3 c3)
  case first =>
    go_region_law
      ((refine step_append_kids _ rfl _ _ rfl (M + 1) M _ .nil ua [] (xs.take (j * 2)) rfl (World.ownsRow_nil _ _ _ _) rfl M _ j _ rfl HLA.out.symm (HLA.out.symm ▸ (HR1.out.below hfB.out).drew) (HR2.out.same hfB.out (Nat.le_refl _)).drew (by simp only [Fo.len, HLA.out]; omega) (by omega) HB0.out.2.2.2.2.2.2.2.2 ?_; intro A3 c3 w3 hl3 hc3 hown3 hrow3 hk3 hb3; have g1 := hb3.cellOf (by omega) f1; have g3 : w3.cell? ⟨M, 1, none⟩ = some (.slice none 0 0) := hb3.cellOf (by omega) f3; have g4 : w3.frozen? ⟨M, 1, none⟩ = false := (hb3.frozen (p := ⟨M, 1, none⟩) (by simp)).trans f4))
    all_goals (go_wp2_with fail; go_meet)
    all_goals exact ⟨A3, c3, (HB0.out.drew).store (u' := ua) (xs' := xs.take (j * 2)) hlt2 hb3 hown3 hrow3⟩
  case rest =>
    obtain ⟨A3, c3, hB5⟩ := hcut
    have f1' := hB5.2.1
    have f3' := hB5.2.2.2.1
    have f4' := hB5.2.2.2.2.1
    have HB5 := Lib.hid hB5
    have hfB5 := Lib.hid hB5.2.2.2.2.2.2.2.1
    clear hB5 f1 f3 f4 HB0 hfB HR1 HR2
    have hj2 : (0 : Int) ≤ (j : Int) + 1 := by omega
    have hw1 : IntKind.i64.wrap ((j : Int) + 1) = (j : Int) + 1 := by rw [IntKind.wrap_i64]; omega
    go_upto_region 6 with fail
    go_cut [] from 51 to 59 (fun wx => ∃ A4 c4 ys, Built w.heap.size M v (some ⟨b, off, none⟩) ks.len c (ua.app ub) ys w2 wx A4 c4)
    case first =>
      go_region_law
        ((refine step_append_kids _ rfl _ _ rfl (M + 1) M _ ua ub (xs.take (j * 2)) (xs.drop ((j + 1) * 2)) rfl HB5.out.2.2.2.2.2.1.drew HB5.out.2.2.2.2.2.2.1.drew M _ (ks.len - (j + 1)) (c - (j + 1)) rfl HLB.out.symm (HLB.out.symm ▸ (HR3.out.below hfB5.out).drew) (HR4.out.same hfB5.out (Nat.le_refl _)).drew (by have := HLA.out; have := HLB.out; omega) (by omega) HB5.out.2.2.2.2.2.2.2.2 ?_; intro A4 c4 w4 hl4 hc4 hown4 hrow4 hk4 hb4; have g1 := hb4.cellOf (by omega) f1'; have g3 : w4.cell? ⟨M, 1, none⟩ = some (.slice A3 ua.len c3) := hb4.cellOf (by omega) f3'; have g4 : w4.frozen? ⟨M, 1, none⟩ = false := (hb4.frozen (p := ⟨M, 1, none⟩) (by simp)).trans f4'))
      all_goals (go_wp2_with fail; go_meet)
      all_goals exact ⟨A4, c4, _, (HB5.out.drew).store (u' := ua.app ub) (xs' := xs.take (j * 2) ++ xs.drop ((j + 1) * 2)) hlt2 hb4 hown4 hrow4⟩
    case rest =>
      obtain ⟨A4, c4, ys, hB6⟩ := hcut
      obtain ⟨hl6, hc6, hk6⟩ := hB6.kids
      have hV6 : Var M A4 c4 v (ua.app ub) wc := ⟨hB6.2.2.1, hB6.2.2.2.1, hB6.2.2.2.2.2.2.2.2, hk6⟩
      have hb6 : Below w2.heap.size w2 wc := hM.symm ▸ hB6.2.2.2.2.2.2.2.1
      have hBB : Below w.heap.size w wc := hBw.trans ((hb1.trans ((hb2.trans (hb6.mono hb2.size)).mono hb1.size)).mono hBw.size)
      have hT6 := Var.below hb6 HV2.out
      have HK6 := Lib.hid (KidIs.below hb6 HK2.out)
      clear hB6 hk6 HB5 hfB5 HR3 HR4 hA9 hw1 hj2 f1' f3' f4' hb6 hBw hb1 hb2 HV HV1 HV2 HK HK1 HK2 H1 H3
      have d0 := hT6.1
      have d1 := hT6.2.1
      have HT6 := Lib.hid hT6; have HU6 := Lib.hid hV6
      clear hT6 hV6
      go_wp2_with fail
      refine (H4.out _ HT6.out).mono ?_
      rintro e w7 ⟨rfl, hb7⟩
      have hT7 := Var.below hb7 HT6.out
      have hU7 := Var.below hb7 HU6.out
      have HK7 := Lib.hid (KidIs.below hb7 HK6.out)
      have hBB7 := hBB.trans (hb7.mono hBB.size)
      have e0 := hU7.1
      have e1 := hU7.2.1
      have HT7 := Lib.hid hT7; have HU7 := Lib.hid hU7
      clear hT7 hU7 hb7 hBB HT6 HU6 HK6 d0 d1
      go_wp2_with fail
      refine (H7.out _ _ _ hl6 hc6 HU7.out.2.2.2).mono ?_
      rintro e w8 ⟨rfl, hb8⟩
      have hT8 := Var.below hb8 HT7.out
      have hU8 := Var.below hb8 HU7.out
      have HK8 := Lib.hid (KidIs.below hb8 HK7.out)
      have hBB8 := hBB7.trans (hb8.mono hBB7.size)
      have d0 := hT8.1
      have d1 := hT8.2.1
      have HT8 := Lib.hid hT8; have HU8 := Lib.hid hU8
      clear hT8 hU8 hb8 hBB7 HT7 HU7 HK7 e0 e1
      go_wp2_with fail
      refine (H5.out _ HT8.out).mono ?_
      rintro e w9 ⟨rfl, hb9⟩
      have hT9 := Var.below hb9 HT8.out
      have hU9 := Var.below hb9 HU8.out
      have HK9 := Lib.hid (KidIs.below hb9 HK8.out)
      have hBB9 := hBB8.trans (hb9.mono hBB8.size)
      have e0 := hU9.1
      have e1 := hU9.2.1
      have HT9 := Lib.hid hT9; have HU9 := Lib.hid hU9
      clear hT9 hU9 hb9 hBB8 HT8 HU8 HK8 d0 d1
      go_wp2_with fail
      refine (H8.out _ _ _ hl6 hc6 HU9.out.2.2.2).mono ?_
      rintro e wA ⟨rfl, hbA⟩
      have hTA := Var.below hbA HT9.out
      have HKA := Lib.hid (KidIs.below hbA HK9.out)
      have hBBA := hBB9.trans (hbA.mono hBB9.size)
      have HTA := Lib.hid hTA
      clear hTA hbA hBB9 HT9 HU9 HK9 e0 e1
      go_wp2_with fail
      refine (alive_any wA).mono ?_
      rintro e wB ⟨rfl, hbB⟩
      have hTB := Var.below hbB HTA.out
      have hKB := KidIs.below hbB HKA.out
      have hBBB := hBBA.trans (hbB.mono hBBA.size)
      have d1 := hTB.2.1
      have d2 := hKB.1
      have d3 := hKB.2.1
      have HKB := Lib.hid hKB
      clear hTB hbB hBBA HTA HKA hKB
      by_cases hs2 : s = 2
      · obtain ⟨rfl, hXY⟩ := HF.out hs2
        subst hs2
        have hXe : X - Y = 2 * ((k.size : Int) + 1) := by omega
        have HX := Lib.hid hXe
        clear hXe hXY
        go_wp2_with fail
        refine (H6.out _ HKB.out).mono ?_
        rintro e wC ⟨rfl, hbC⟩
        have hXe := HX.out
        go_wp2_with fail
        go_ret
        exact ⟨rfl, hBBB.trans (hbC.mono hBBB.size)⟩
      · go_wp2_with fail
        go_ret
        exact ⟨rfl, hBBB⟩

set_option maxRecDepth 100000 in
set_option maxHeartbeats 1000000 in
theorem walk_VoteLess (v : Int) (ks : Fo) (A : Option Addr) (c : Nat) (a : Int) (w : World) (hl : ks.len ≤ c) (hc : c ≤ maxLen) (hk : KidsAt w w.heap.size A 0 ks) (ha : (Lit.int IntKind.i64 a).wf = true) :
    Calls Try.prog 8 #[.agg #[.int .i64 v, .slice A ks.len c], .int .i64 a] w fun e w' => e = .returned (.bool true) ∧ Below w.heap.size w w' := by
  have ways : (rightB v ks = false ∨ a < 0 ∨ (ks.len : Int) ≤ a) ∨ rightB v ks = true ∧ ∃ j : Nat, a = (j : Int) ∧ j < ks.len := by
    cases rightB v ks
    · exact .inl (.inl rfl)
    · by_cases h0 : a < 0
      · exact .inl (.inr (.inl h0))
      · by_cases h1 : (ks.len : Int) ≤ a
        · exact .inl (.inr (.inr h1))
        · exact .inr ⟨rfl, a.toNat, by omega, by omega⟩
  rcases ways with hw | ⟨hR, j, rfl, hj⟩
  · obtain ⟨W0, hW0, hBw, hV⟩ := boxed_tree v ks A c w hk
    have hc0 := hV.1
    have hc1 := hV.2.1
    have h1 := fun bb (hR : rightB v ks = bb) => right_at hR hl hc hV.2.2.2
    have HV := Lib.hid hV
    clear hV hk ha
    cases hR : rightB v ks
    · have H1 := Lib.hid (h1 _ hR)
      clear h1 hR hw
      go_enter Try.func8, Try.ntmps8
      go_wp2_with (first
        | (go_at_call 15; refine H1.out.mono ?_; clear H1; rintro e w1 ⟨rfl, hb1⟩)
        | (go_at_call 16; refine (alive_any _).mono ?_; rintro e w2 ⟨rfl, hb2⟩))
      go_ret
      exact ⟨rfl, hBw.trans ((hb1.trans (hb2.mono hb1.size)).mono hBw.size)⟩
    · have H1 := Lib.hid (h1 _ hR)
      clear h1
      have hw' : a < 0 ∨ 0 ≤ a ∧ (ks.len : Int) ≤ a := by
        rcases hw with h | h | h
        · rw [hR] at h; cases h
        · exact .inl h
        · omega
      clear hw hR
      rcases hw' with h0 | ⟨h0, h2⟩
      · go_enter Try.func8, Try.ntmps8
        go_wp2_with (first
          | (go_at_call 15; refine H1.out.mono ?_; clear H1; rintro e w1 ⟨rfl, hb1⟩; have hV1 := Var.below hb1 HV.out; have d1 := hV1.2.1; have HV1 := Lib.hid hV1; clear hV1)
          | (go_at_call 16; refine (alive_any _).mono ?_; rintro e w2 ⟨rfl, hb2⟩))
        go_ret
        exact ⟨rfl, hBw.trans ((hb1.trans (hb2.mono hb1.size)).mono hBw.size)⟩
      · go_enter Try.func8, Try.ntmps8
        go_wp2_with (first
          | (go_at_call 15; refine H1.out.mono ?_; clear H1; rintro e w1 ⟨rfl, hb1⟩; have hV1 := Var.below hb1 HV.out; have d1 := hV1.2.1; have HV1 := Lib.hid hV1; clear hV1)
          | (go_at_call 16; refine (alive_any _).mono ?_; rintro e w2 ⟨rfl, hb2⟩))
        go_ret
        exact ⟨rfl, hBw.trans ((hb1.trans (hb2.mono hb1.size)).mono hBw.size)⟩
  · exact less_ok v ks A c j w hl hc hk hR hj
end Go.Proofs.Ytkafoeaffcbheaa
