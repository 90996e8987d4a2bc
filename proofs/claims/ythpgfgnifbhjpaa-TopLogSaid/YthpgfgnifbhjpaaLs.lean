/- trothtop.TopLog, the walk. -/
import Derived.Test.YthpgfgnifbhjpaaLr
namespace Go.Proofs.Ythpgfgnifbhjpaa
open Go.RowKit Go.Shelf
set_option linter.unusedVariables false

set_option maxRecDepth 100000 in
set_option maxHeartbeats 8000000 in
theorem top_any (A0 A1 : Option Addr) (ls : List (List (List Int))) (c0 c1 : Nat) (bs : List Bool) (keep : Int) (w : World) (hA : ListsP w (fun _ => True) A0 ls) (hby : ∀ l ∈ ls, ∀ p ∈ l, Bytes p) (hB : BoolsP w A1 bs)
    (hl0 : ls.length ≤ c0) (hc0 : c0 ≤ maxLen) (hl1 : bs.length ≤ c1) (hc1 : c1 ≤ maxLen) (hll : ∀ l ∈ ls, l.length ≤ maxLen) :
    Calls Try.prog 3 #[.slice A0 ls.length c0, .slice A1 bs.length c1, .int .i64 keep] w fun e w' => e = .returned (.bool true) ∧ Below w.heap.size w w' := by
  have hal : ∀ W, Below w.heap.size w W → Calls Try.prog 4 #[] W fun e w' => e = .returned (.bool true) ∧ Below w.heap.size w w' := fun W hW =>
    (alive_any W).mono fun e w' ⟨he, hb⟩ => ⟨he, hW.trans (hb.mono hW.size)⟩
  have hnw := tape8_new 65536 w (by omega) (by omega)
  have HN := Lib.hid hnw; have HAL := Lib.hid hal; have HBY := Lib.hid hby
  clear hnw hal hby
  go_enter Try.func3, Try.ntmps3
  by_cases h20 : 20 < ls.length
  · have h20' : (20 : Int) < (ls.length : Int) := by omega
    go_wp2_with (go_at_call 4; refine (HAL.out _ (Below.refl _ _)).mono ?_; rintro e w1 ⟨rfl, hb1⟩)
    go_ret
    exact ⟨rfl, hb1⟩
  · have h20' : ¬ (20 : Int) < (ls.length : Int) := by omega
    go_wp2_with (first
      | (go_at_call 5; refine HN.out.mono ?_; rintro e w1 ⟨rfl, hT1, hb1⟩; have z1 := hT1.lt)
      | (go_at_call 6; refine (open_any w.heap.size w.heap.size 65536 [] 0 [] [] w1 (by omega) (Nat.le_refl _) hT1 rfl (by simp) (by simp) (.inl (by simp)) (by simp)).mono ?_; rintro e w2 ⟨L, A2, c2, rfl, hL2, hP2, hT2, -, hb2⟩; have z2 := hb2.size))
    have hb02 := hb1.trans hb2
    have hL0 : w.heap.size ≤ w1.heap.size := hb1.size
    generalize w1.heap.size = base at *
    go_loopw [12, 13] (fun sv iv wr => ∃ (i sure f : Nat), i ≤ ls.length ∧ sure ≤ i ∧ sv = .int .i64 sure ∧ iv = .int .i64 i ∧ (∀ l ∈ ls.take i, Small l) ∧ LogP wr L w.heap.size base i ∧
      Tape8 wr w.heap.size 65536 (catF (recFrom 0 (ls.take i))) f ∧ f = (catF (recFrom 0 (ls.take sure))).length ∧ Below w.heap.size w wr ∧ base ≤ wr.heap.size) (fun _ iv _ => ls.length - (intOf iv).toNat)
    case atStart => exact ⟨0, 0, 0, Nat.zero_le _, Nat.le_refl _, rfl, rfl, by simp, hP2, hT2, rfl, hb02, by omega⟩
    case round =>
      obtain ⟨i, sure, f, hi, hsu, rfl, rfl, hsm, hP, hT, hf, hBw, hbz⟩ := hrel
      by_cases hlt : i < ls.length
      · obtain ⟨b, off, rfl, -, hc⟩ := (hA.below hBw) (by omega)
        obtain ⟨A', c', z0, hPt⟩ := hc i _ (List.getElem?_eq_getElem hlt)
        have hbyl := HBY.out ls[i] (List.getElem_mem hlt)
        have hlm := hll ls[i] (List.getElem_mem hlt)
        have htk : ls.take (i + 1) = ls.take i ++ [ls[i]] := by rw [List.take_add_one, List.getElem?_eq_getElem hlt]; rfl
        generalize ls[i] = l at *
        have hkl : (i : Int) < (ls.length : Int) := by omega
        have hk0 : (0 : Int) ≤ (i : Int) := by omega
        clear hc
        have HTK := Lib.hid htk; have HSM := Lib.hid hsm; have HBL := Lib.hid hbyl; have HP := Lib.hid hP; have HT := Lib.hid hT; have HF := Lib.hid hf
        clear htk hsm hbyl hP hT hf
        by_cases h10 : 10 < l.length
        · have h10' : (10 : Int) < (l.length : Int) := by omega
          go_wp2_with (go_at_call 4; refine (HAL.out _ hBw).mono ?_; rintro e w1 ⟨rfl, hb1⟩)
          go_ret
          exact ⟨rfl, hb1⟩
        · have h10' : ¬ (10 : Int) < (l.length : Int) := by omega
          go_wp2
          go_loopw [14] (fun kv wk => ∃ k : Nat, k ≤ l.length ∧ kv = .int .i64 k ∧ (∀ p ∈ l.take k, p.length ≤ 60) ∧ wk = wr) (fun kv _ => l.length - (intOf kv).toNat)
          case atStart => exact ⟨0, Nat.zero_le _, rfl, by simp, rfl⟩
          case round =>
            obtain ⟨k, hk, rfl, h60, rfl⟩ := hrel
            by_cases hkt : k < l.length
            · obtain ⟨b2, off2, rfl, -, hc2⟩ := hPt (by omega)
              obtain ⟨A3, c3, z3, -, -, -⟩ := hc2 k _ (List.getElem?_eq_getElem hkt)
              have htk2 : l.take (k + 1) = l.take k ++ [l[k]] := by rw [List.take_add_one, List.getElem?_eq_getElem hkt]; rfl
              generalize l[k] = p at *
              have hkk : (k : Int) < (l.length : Int) := by omega
              have hkk0 : (0 : Int) ≤ (k : Int) := by omega
              clear hc2
              have HTK2 := Lib.hid htk2; have H60 := Lib.hid h60
              clear htk2 h60
              by_cases hp60 : 60 < p.length
              · have hp60' : (60 : Int) < (p.length : Int) := by omega
                go_wp2_with (go_at_call 4; refine (HAL.out _ hBw).mono ?_; rintro e w1 ⟨rfl, hb1⟩)
                go_ret
                exact ⟨rfl, hb1⟩
              · have hp60' : ¬ (60 : Int) < (p.length : Int) := by omega
                go_wp2
                go_roundw
                case rel =>
                  refine ⟨k + 1, by omega, by go_num, ?_, trivial⟩
                  rw [HTK2.out]
                  intro q hq
                  rcases List.mem_append.1 hq with hq | hq
                  · exact H60.out q hq
                  · obtain rfl := List.mem_singleton.1 hq
                    omega
                case measure => simp [intOf]; omega
            · have hkk : ¬ (k : Int) < (l.length : Int) := by omega
              obtain rfl : k = l.length := by omega
              rw [List.take_length] at h60
              have hsml : Small l := ⟨by omega, fun q hq => ⟨h60 q hq, HBL.out q hq⟩⟩
              have hjl := small_join hsml
              have hjb := joinF_bytes l hsml.2
              have hjn := join_any _ A' l c' wr hPt (by omega) h60
              have hxl := recFrom_len (ls.take i) 0 HSM.out
              rw [List.length_take] at hxl
              have hcat : catF (recFrom 0 (ls.take (i + 1))) = catF (recFrom 0 (ls.take i)) ++ recF (1 + (i : Int)) (joinF l) := by
                have hli : 0 + (ls.take i).length = i := by rw [List.length_take]; omega
                rw [HTK.out, recFrom_append, catF_append, hli]
                simp only [recFrom, catF, List.append_nil]
              have hs1 : ∀ q ∈ ls.take (i + 1), Small q := by
                rw [HTK.out]
                intro q hq
                rcases List.mem_append.1 hq with hq | hq
                · exact HSM.out q hq
                · obtain rfl := List.mem_singleton.1 hq
                  exact hsml
              have HJ := Lib.hid hjn; have HJB := Lib.hid hjb; have HCAT := Lib.hid hcat; have HS1 := Lib.hid hs1
              clear hjn hjb hcat hs1 hsml h60
              have hmust : ¬ i < bs.length ∨ ∃ bb boff x, A1 = some ⟨bb, boff, none⟩ ∧ i < bs.length ∧ w.cell? ⟨bb, boff + i, none⟩ = some (.bool x) := by
                by_cases hib : i < bs.length
                · obtain ⟨bb, boff, e, hc⟩ := hB (by omega)
                  exact .inr ⟨bb, boff, bs[i], e, hib, hc i _ (List.getElem?_eq_getElem hib)⟩
                · exact .inl hib
              rcases hmust with hib | ⟨bb, boff, x, rfl, hib, hbc⟩
              · have hib' : ¬ (i : Int) < (bs.length : Int) := by omega
                go_wp2_with (first
                  | (go_at_call 7; refine HJ.out.mono ?_; rintro e w3 ⟨sv5, rfl, hown3, hb3⟩; obtain ⟨A5, c5, rfl, hl5, hc5, hB5⟩ := bytes_of_own (P := IsT w3 5) hown3 (fun g hg => own_isT hown3 hg); have hz5 := hb3.size; have hP3 := HP.out.below hb3; have hT3 := HT.out.below hb3)
                  | (go_at_call 8; refine (add_any w.heap.size L w.heap.size base i 65536 (1 + (i : Int)) A5 (joinF l) c5 false _ f w3 ⟨Nat.le_refl _, by omega, hL0, by omega⟩ hP3 hT3 (by omega) (by omega) (by omega) (by omega) (by omega) (by omega) (by omega) (by omega) HJB.out hB5 hl5 hc5).mono ?_; rintro e w4 ⟨rfl, hP4, hT4, hb4⟩; have hz4 := hb4.size))
                rw [if_neg (by simp)] at hT4
                rw [← HCAT.out] at hT4
                have HP4 := Lib.hid hP4; have HT4 := Lib.hid hT4
                go_roundw
                case rel => exact ⟨i + 1, sure, f, by omega, by omega, rfl, by go_num, HS1.out, HP4.out, HT4.out, HF.out, hBw.trans ((hb3.mono hBw.size).trans hb4), by omega⟩
                case measure => simp [intOf]; omega
              · have hib' : (i : Int) < (bs.length : Int) := by omega
                cases x
                · go_wp2_with (first
                    | (go_at_call 7; refine HJ.out.mono ?_; rintro e w3 ⟨sv5, rfl, hown3, hb3⟩; obtain ⟨A5, c5, rfl, hl5, hc5, hB5⟩ := bytes_of_own (P := IsT w3 5) hown3 (fun g hg => own_isT hown3 hg); have hz5 := hb3.size; have hz3 := ((hBw.trans (hb3.mono hBw.size)).cell (p := ⟨bb, boff + i, none⟩) (World.block_lt_of_cell? w _ hbc)).trans hbc; have hP3 := HP.out.below hb3; have hT3 := HT.out.below hb3)
                    | (go_at_call 8; refine (add_any w.heap.size L w.heap.size base i 65536 (1 + (i : Int)) A5 (joinF l) c5 false _ f w3 ⟨Nat.le_refl _, by omega, hL0, by omega⟩ hP3 hT3 (by omega) (by omega) (by omega) (by omega) (by omega) (by omega) (by omega) (by omega) HJB.out hB5 hl5 hc5).mono ?_; rintro e w4 ⟨rfl, hP4, hT4, hb4⟩; have hz4 := hb4.size))
                  rw [if_neg (by simp)] at hT4
                  rw [← HCAT.out] at hT4
                  have HP4 := Lib.hid hP4; have HT4 := Lib.hid hT4
                  go_roundw
                  case rel => exact ⟨i + 1, sure, f, by omega, by omega, rfl, by go_num, HS1.out, HP4.out, HT4.out, HF.out, hBw.trans ((hb3.mono hBw.size).trans hb4), by omega⟩
                  case measure => simp [intOf]; omega
                · go_wp2_with (first
                    | (go_at_call 7; refine HJ.out.mono ?_; rintro e w3 ⟨sv5, rfl, hown3, hb3⟩; obtain ⟨A5, c5, rfl, hl5, hc5, hB5⟩ := bytes_of_own (P := IsT w3 5) hown3 (fun g hg => own_isT hown3 hg); have hz5 := hb3.size; have hz3 := ((hBw.trans (hb3.mono hBw.size)).cell (p := ⟨bb, boff + i, none⟩) (World.block_lt_of_cell? w _ hbc)).trans hbc; have hP3 := HP.out.below hb3; have hT3 := HT.out.below hb3)
                    | (go_at_call 8; refine (add_any w.heap.size L w.heap.size base i 65536 (1 + (i : Int)) A5 (joinF l) c5 true _ f w3 ⟨Nat.le_refl _, by omega, hL0, by omega⟩ hP3 hT3 (by omega) (by omega) (by omega) (by omega) (by omega) (by omega) (by omega) (by omega) HJB.out hB5 hl5 hc5).mono ?_; rintro e w4 ⟨rfl, hP4, hT4, hb4⟩; have hz4 := hb4.size))
                  simp only [if_true] at hT4
                  rw [← HCAT.out] at hT4
                  have HP4 := Lib.hid hP4; have HT4 := Lib.hid hT4
                  go_roundw
                  case rel => exact ⟨i + 1, i + 1, _, by omega, Nat.le_refl _, by go_num, by go_num, HS1.out, HP4.out, HT4.out, rfl, hBw.trans ((hb3.mono hBw.size).trans hb4), by omega⟩
                  case measure => simp [intOf]; omega
      · have hkl : ¬ (i : Int) < (ls.length : Int) := by omega
        obtain rfl : i = ls.length := by omega
        rw [List.take_length] at hsm hT
        have hok := recFrom_ok ls 0 hsm (by omega)
        have hxl := recFrom_len ls 0 hsm
        have hfx : f ≤ (catF (recFrom 0 ls)).length := by rw [hf]; exact catF_take_le ls sure
        have hcr := tape8_crash w.heap.size 65536 (catF (recFrom 0 ls)) f keep wr (by omega) hT hfx (by omega)
        have HCR := Lib.hid hcr; have HOK := Lib.hid hok; have HSM := Lib.hid hsm; have HF := Lib.hid hf
        clear hcr hok hsm hT hP hf
        go_wp2_with (first
          | (go_at_call 9; refine HCR.out.mono ?_; rintro e w5 ⟨rfl, n, hfn, hnx, hT5, hg5⟩; have hb5 : Below w.heap.size w w5 := hBw.trans ((Below.refl w.heap.size wr).grown hg5 hBw.size (fun k e => by cases e; exact Nat.le_refl _)); obtain ⟨j, tail, hj, he, htl, hss⟩ := crash_law (recFrom 0 ls) n hnx HOK.out; have hjs : sure ≤ j := hss sure (by rw [recFrom_length]; omega) (by rw [recFrom_take, ← HF.out]; exact hfn); rw [recFrom_length] at hj; have hjl : ((recFrom 0 ls).take j).length = j := by rw [List.length_take, recFrom_length]; omega)
          | (go_at_call 6; have hop := open_any w.heap.size w.heap.size 65536 ((catF (recFrom 0 ls)).take n) n ((recFrom 0 ls).take j) tail w5 (by omega) (Nat.le_refl _) hT5 he (fun r hr => HOK.out r (List.mem_of_mem_take hr)) (by omega) htl (by rw [List.length_take]; omega); rw [hjl] at hop; refine hop.mono ?_; rintro e w6 ⟨L6, A6, c6, rfl, -, -, -, hR6, hb6⟩; have hb06 := hb5.trans hb6))
        have hz6 : w.heap.size ≤ w6.heap.size := hb06.size
        have HJL := Lib.hid hjl; have HE := Lib.hid he; have HSS := Lib.hid hss
        clear hjl he hss hT5 hg5 hb5 hb6 htl
        have d1 : decide (j < sure) = false := by simp; omega
        have d2 : decide (ls.length < j) = false := by simp; omega
        simp only [d1, d2, Bool.or_self]
        clear d1 d2
        go_loopw [21] (fun kv wr => ∃ k : Nat, k ≤ j ∧ kv = .int .i64 k ∧ Below w6.heap.size w6 wr) (fun kv _ => j - (intOf kv).toNat)
        case atStart => exact ⟨0, Nat.zero_le _, rfl, Below.refl _ _⟩
        case round =>
          obtain ⟨k, hk, rfl, hB6⟩ := hrel
          have hbwk : Below w.heap.size w wr := hb06.trans (hB6.mono hz6)
          by_cases hkt : k < j
          · have hkls : k < ls.length := by omega
            obtain ⟨b0, off0, rfl, -, hc⟩ := (hA.below hbwk) (by omega)
            obtain ⟨A', c', z0, hPt⟩ := hc k _ (List.getElem?_eq_getElem hkls)
            have hsl := HSM.out ls[k] (List.getElem_mem hkls)
            have hrk : ((recFrom 0 ls).take j)[k]? = some (1 + ((0 : Nat) : Int) + (k : Int), joinF ls[k]) := by
              rw [List.getElem?_take, if_pos hkt]
              exact recFrom_get ls 0 k _ (List.getElem?_eq_getElem hkls)
            obtain ⟨b9, off9, rfl, -, hc9⟩ := (hR6.below hB6) (by rw [HJL.out]; omega)
            obtain ⟨A7, c7, r0, r1, hl7, hc7, hB7⟩ := hc9 k _ hrk
            simp only at r0 r1 hl7 hB7
            rw [show (1 : Int) + ((0 : Nat) : Int) + (k : Int) = 1 + (k : Int) by simp] at r0
            generalize ls[k] = l at *
            have hjl7 := small_join hsl
            have hkk : (k : Int) < (j : Int) := by omega
            have hkl2 : (k : Int) < (ls.length : Int) := by omega
            have hkk0 : (0 : Int) ≤ (k : Int) := by omega
            have hsp := split_in 3 (Nat.le_refl _) A7 c7 (joinF l) l wr rfl hsl.2 hsl.1 (by omega) hl7 hc7 hB7.any
            have l0 := World.block_lt_of_cell? wr _ z0
            have l1 := World.block_lt_of_cell? wr _ r0
            have hn10 := hsl.1
            have HSP := Lib.hid (callsIn_wide.1 hsp); have HPT := Lib.hid hPt
            clear hsp hPt hc hc9 hrk hsl hB7
            go_wp2_with (first
              | (go_at_call 10; refine HSP.out.mono ?_; rintro e w7 ⟨A8, c8, rfl, hl8, hc8, hP8, hb8⟩; have hba := hb8.trans ((below_alloc (Below.refl _ w7) (.cells #[.int .i64 0, .int .i64 0] 42)).mono hb8.size); have y1 := (hba.cell (p := ⟨b0, off0 + k, none⟩) l0).trans z0; have hsz := hba.size)
              | (go_at_call 11; refine (same_any A8 A' c8 c' l (w7.alloc (.cells #[.int .i64 0, .int .i64 0] 42)) (hP8.below (below_alloc (Below.refl _ w7) _)) (HPT.out.below hba) hn10).mono ?_; rintro e w8 ⟨rfl, hb9⟩; have hbk8 := hba.trans (hb9.mono hsz); have y2 := (hbk8.cell (p := ⟨b9, off9 + k * 2, none⟩) l1).trans r0))
            go_roundw
            case rel => exact ⟨k + 1, by omega, by go_num, hB6.trans (hbk8.mono hB6.size)⟩
            case measure => simp [intOf]; omega
          · have hkk : ¬ (k : Int) < (j : Int) := by omega
            go_wp2_with (go_at_call 4; refine (HAL.out _ hbwk).mono ?_; rintro e w1 ⟨rfl, hb1⟩)
            go_ret
            exact ⟨rfl, hb1⟩

theorem walk_TopLog (A0 : Option Addr) (ls : List (List (List Int))) (c0 : Nat) (A1 : Option Addr) (bs : List Bool) (c1 : Nat) (keep : Int) (w : World) (hl0 : ls.length ≤ c0) (hc0 : c0 ≤ maxLen)
    (hk0 : ListsP w (fun _ => True) A0 ls ∧ (∀ l ∈ ls, ∀ p ∈ l, Bytes p) ∧ ∀ l ∈ ls, l.length ≤ maxLen) (hl1 : bs.length ≤ c1) (hc1 : c1 ≤ maxLen) (hk1 : BoolsP w A1 bs) {X : Prop} (_ : X) :
    Calls Try.prog 3 #[.slice A0 ls.length c0, .slice A1 bs.length c1, .int .i64 keep] w fun e w' => e = .returned (.bool true) ∧ Below w.heap.size w w' :=
  top_any A0 A1 ls c0 c1 bs keep w hk0.1 hk0.2.1 hk1 hl0 hc0 hl1 hc1 hk0.2.2
end Go.Proofs.Ythpgfgnifbhjpaa
