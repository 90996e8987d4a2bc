/- The walk of the law TopTold. -/
import Derived.Test.YtkafoeaffcbheaaTt
import Derived.Test.YtkafoeaffcbheaaVw
namespace Go.Proofs.Ytkafoeaffcbheaa
open Go.RowKit
set_option linter.unusedVariables false

theorem byte_three (x : Int) (h : (Lit.int IntKind.u8 x).wf = true) : x.tmod 3 = 0 ∨ x.tmod 3 = 1 ∨ x.tmod 3 = 2 := by
  have h' : 0 ≤ x ∧ x ≤ 255 := by
    simp [Lit.wf, IntKind.min, IntKind.max, IntKind.signed, IntKind.bits] at h
    omega
  rw [Int.tmod_eq_emod_of_nonneg h'.1]
  omega

set_option maxRecDepth 100000 in
set_option maxHeartbeats 4000000 in
theorem told_ok_true (v : Int) (ks : Fo) (A : Option Addr) (c : Nat) (hA : Option Addr) (xs : List Int) (hcap : Nat) (w : World) (hl : ks.len ≤ c) (hc : c ≤ maxLen) (hk : KidsAt w w.heap.size A 0 ks) (hR : rightB v ks = true) (hN : noT v ks = false)
    (hxl : xs.length ≤ hcap) (hxc : hcap ≤ maxLen) (hx : NumsAt .u8 w w.heap.size hA xs ∧ ∀ n ∈ xs, (Lit.int .u8 n).wf = true) :
    Calls Try.prog 3 #[.agg #[.int .i64 v, .slice A ks.len c], .slice hA xs.length hcap] w fun e w' => e = .returned (.bool true) ∧ Below w.heap.size w w' := by
  obtain ⟨W0, hW0, hBw, hV⟩ := boxed_tree v ks A c w hk
  have hc0 := hV.1
  have hc1 := hV.2.1
  have htl := told_le hR
  have hsz := right_size hR
  have h1 : Calls Try.prog 10 #[.agg #[.int .i64 v, .slice A ks.len c]] W0 fun e W' => e = .returned (.tuple #[.bool true, .int .i64 0]) ∧ Below W0.heap.size W0 W' := by
    have := commits_yes hR W0 hl hc hV.2.2.2
    rw [commits_iff hR, hN] at this
    exact this
  have h2 : ∀ W, Var w.heap.size A c v ks W → Calls Try.prog 11 #[.agg #[.int .i64 v, .slice A ks.len c]] W fun e W' => ∃ B cap, e = .returned (.tuple #[.slice B (toldL 0 (seen 1 v ks)).length cap, .int .i64 0]) ∧
      IntsAt W' W'.heap.size B (toldL 0 (seen 1 v ks)) ∧ Below W.heap.size W W' := fun W hW => told_at hR W hl hc hW.2.2.2
  generalize toldL 0 (seen 1 v ks) = L at *
  have d1 : ∀ W, Calls Try.prog 13 #[.int .i64 3, .bool true] W fun e w' => e = .returned (.tuple #[.int .i64 6, .int .i64 0]) ∧ W = w' := fun W => decide_any 3 true W
  have d2 : ∀ W, Calls Try.prog 13 #[.int .i64 3, .bool false] W fun e w' => e = .returned (.tuple #[.int .i64 7, .int .i64 0]) ∧ W = w' := fun W => decide_any 3 false W
  have l3 : ∀ W, Calls Try.prog 14 #[.int .i64 3, .int .i64 4] W fun e w' => e = .returned (.tuple #[.int .i64 4, .bool false, .int .i64 0]) ∧ W = w' := fun W => learn_any 3 4 W
  have l6 : ∀ W, Calls Try.prog 14 #[.int .i64 6, .int .i64 4] W fun e w' => e = .returned (.tuple #[.int .i64 4, .bool false, .int .i64 0]) ∧ W = w' := fun W => learn_any 6 4 W
  have l7 : ∀ W, Calls Try.prog 14 #[.int .i64 7, .int .i64 4] W fun e w' => e = .returned (.tuple #[.int .i64 5, .bool true, .int .i64 0]) ∧ W = w' := fun W => learn_any 7 4 W
  have HX0 := Lib.hid (hx.1.below hBw)
  have HW := Lib.hid hx.2
  have D1 := Lib.hid d1; have D2 := Lib.hid d2; have L3 := Lib.hid l3; have L6 := Lib.hid l6; have L7 := Lib.hid l7
  have H1 := Lib.hid h1; have H2 := Lib.hid h2; have HV := Lib.hid hV
  clear h1 h2 hV hR hk hN d1 d2 l3 l6 l7 hx
  have hLl : L.length < 64 := by omega
  clear htl hsz
  go_enter Try.func3, Try.ntmps3
  go_wp2_with fail
  refine H1.out.mono ?_
  rintro e w1 ⟨rfl, hb1⟩
  have hV1 := Var.below hb1 HV.out
  have hd0 := hV1.1
  have hd1 := hV1.2.1
  have HV1 := Lib.hid hV1
  clear hV1 hc0 hc1 hW0
  go_wp2_with fail
  refine (H2.out _ HV1.out).mono ?_
  rintro e w2 ⟨B, cap, rfl, -, hb2⟩
  have hBB : Below w.heap.size w w2 := hBw.trans ((hb1.trans (hb2.mono hb1.size)).mono hBw.size)
  have HX2 := Lib.hid (HX0.out.below (((hb1.mono hBw.size).trans (hb2.mono (Nat.le_trans hBw.size hb1.size)))))
  have HB := Lib.hid hBB
  clear hb1 hb2 hBw hBB HV HV1 hd0 hd1
  go_wp2_with fail
  go_loopw [10, 11, 12, 13, 14, 15, 16, 17] (fun i _ _ _ _ _ _ _ wr => ∃ j : Nat, i = .int .i64 (j : Int) ∧ j ≤ L.length ∧ wr = w2) (fun i _ _ _ _ _ _ _ wr => L.length - (intOf i).toNat)
  case atStart => exact ⟨0, rfl, Nat.zero_le _, rfl⟩
  case round =>
    obtain ⟨j, rfl, hj, rfl⟩ := hrel
    by_cases hlt : j < L.length
    · have hjl : (j : Int) < (L.length : Int) := by omega
      have hj0 : (0 : Int) ≤ (j : Int) := by omega
      by_cases hjx : j < xs.length
      · obtain ⟨b, off, rfl, hb, hcc⟩ := HX2.out (by omega)
        have hg : xs[j]? = some xs[j] := List.getElem?_eq_getElem hjx
        have hcell := hcc j _ hg
        have hmod := byte_three xs[j] (HW.out _ (List.getElem_mem hjx))
        generalize xs[j] = x at *
        have hjx' : (j : Int) < (xs.length : Int) := by omega
        clear hcc hg
        rcases hmod with hm | hm | hm
        · go_wp2_with (first
            | (go_at_call 14; refine (L3.out _).mono ?_; rintro e w3 ⟨rfl, rfl⟩))
          go_roundw
          case rel => exact ⟨j + 1, by go_num, by omega, trivial⟩
          case measure => simp [intOf]; omega
        · go_wp2_with (first
            | (go_at_call 13; refine (D1.out _).mono ?_; rintro e w3 ⟨rfl, rfl⟩)
            | (go_at_call 14; refine (L6.out _).mono ?_; rintro e w3 ⟨rfl, rfl⟩))
          go_roundw
          case rel => exact ⟨j + 1, by go_num, by omega, trivial⟩
          case measure => simp [intOf]; omega
        · go_wp2_with (first
            | (go_at_call 13; refine (D2.out _).mono ?_; rintro e w3 ⟨rfl, rfl⟩)
            | (go_at_call 14; refine (L7.out _).mono ?_; rintro e w3 ⟨rfl, rfl⟩))
          go_roundw
          case rel => exact ⟨j + 1, by go_num, by omega, trivial⟩
          case measure => simp [intOf]; omega
      · have hjx' : ¬ (j : Int) < (xs.length : Int) := by omega
        go_wp2_with (go_at_call 14; refine (L3.out _).mono ?_; rintro e w3 ⟨rfl, rfl⟩)
        go_roundw
        case rel => exact ⟨j + 1, by go_num, by omega, trivial⟩
        case measure => simp [intOf]; omega
    · have hjl : (j : Int) = (L.length : Int) := by omega
      go_wp2_with fail
      refine (alive09_any _).mono ?_
      rintro e w6 ⟨rfl, hb6⟩
      go_wp2_with fail
      go_ret
      exact ⟨rfl, HB.out.trans (hb6.mono HB.out.size)⟩

set_option maxRecDepth 100000 in
set_option maxHeartbeats 4000000 in
theorem told_ok_false (v : Int) (ks : Fo) (A : Option Addr) (c : Nat) (hA : Option Addr) (xs : List Int) (hcap : Nat) (w : World) (hl : ks.len ≤ c) (hc : c ≤ maxLen) (hk : KidsAt w w.heap.size A 0 ks) (hR : rightB v ks = true) (hN : noT v ks = true)
    (hxl : xs.length ≤ hcap) (hxc : hcap ≤ maxLen) (hx : NumsAt .u8 w w.heap.size hA xs ∧ ∀ n ∈ xs, (Lit.int .u8 n).wf = true) :
    Calls Try.prog 3 #[.agg #[.int .i64 v, .slice A ks.len c], .slice hA xs.length hcap] w fun e w' => e = .returned (.bool true) ∧ Below w.heap.size w w' := by
  obtain ⟨W0, hW0, hBw, hV⟩ := boxed_tree v ks A c w hk
  have hc0 := hV.1
  have hc1 := hV.2.1
  have htl := told_le hR
  have hsz := right_size hR
  have h1 : Calls Try.prog 10 #[.agg #[.int .i64 v, .slice A ks.len c]] W0 fun e W' => e = .returned (.tuple #[.bool false, .int .i64 0]) ∧ Below W0.heap.size W0 W' := by
    have := commits_yes hR W0 hl hc hV.2.2.2
    rw [commits_iff hR, hN] at this
    exact this
  have h2 : ∀ W, Var w.heap.size A c v ks W → Calls Try.prog 11 #[.agg #[.int .i64 v, .slice A ks.len c]] W fun e W' => ∃ B cap, e = .returned (.tuple #[.slice B (toldL 0 (seen 1 v ks)).length cap, .int .i64 0]) ∧
      IntsAt W' W'.heap.size B (toldL 0 (seen 1 v ks)) ∧ Below W.heap.size W W' := fun W hW => told_at hR W hl hc hW.2.2.2
  generalize toldL 0 (seen 1 v ks) = L at *
  have d1 : ∀ W, Calls Try.prog 13 #[.int .i64 3, .bool true] W fun e w' => e = .returned (.tuple #[.int .i64 6, .int .i64 0]) ∧ W = w' := fun W => decide_any 3 true W
  have d2 : ∀ W, Calls Try.prog 13 #[.int .i64 3, .bool false] W fun e w' => e = .returned (.tuple #[.int .i64 7, .int .i64 0]) ∧ W = w' := fun W => decide_any 3 false W
  have l3 : ∀ W, Calls Try.prog 14 #[.int .i64 3, .int .i64 5] W fun e w' => e = .returned (.tuple #[.int .i64 5, .bool false, .int .i64 0]) ∧ W = w' := fun W => learn_any 3 5 W
  have l6 : ∀ W, Calls Try.prog 14 #[.int .i64 6, .int .i64 5] W fun e w' => e = .returned (.tuple #[.int .i64 4, .bool true, .int .i64 0]) ∧ W = w' := fun W => learn_any 6 5 W
  have l7 : ∀ W, Calls Try.prog 14 #[.int .i64 7, .int .i64 5] W fun e w' => e = .returned (.tuple #[.int .i64 5, .bool false, .int .i64 0]) ∧ W = w' := fun W => learn_any 7 5 W
  have HX0 := Lib.hid (hx.1.below hBw)
  have HW := Lib.hid hx.2
  have D1 := Lib.hid d1; have D2 := Lib.hid d2; have L3 := Lib.hid l3; have L6 := Lib.hid l6; have L7 := Lib.hid l7
  have H1 := Lib.hid h1; have H2 := Lib.hid h2; have HV := Lib.hid hV
  clear h1 h2 hV hR hk hN d1 d2 l3 l6 l7 hx
  have hLl : L.length < 64 := by omega
  clear htl hsz
  go_enter Try.func3, Try.ntmps3
  go_wp2_with fail
  refine H1.out.mono ?_
  rintro e w1 ⟨rfl, hb1⟩
  have hV1 := Var.below hb1 HV.out
  have hd0 := hV1.1
  have hd1 := hV1.2.1
  have HV1 := Lib.hid hV1
  clear hV1 hc0 hc1 hW0
  go_wp2_with fail
  refine (H2.out _ HV1.out).mono ?_
  rintro e w2 ⟨B, cap, rfl, -, hb2⟩
  have hBB : Below w.heap.size w w2 := hBw.trans ((hb1.trans (hb2.mono hb1.size)).mono hBw.size)
  have HX2 := Lib.hid (HX0.out.below (((hb1.mono hBw.size).trans (hb2.mono (Nat.le_trans hBw.size hb1.size)))))
  have HB := Lib.hid hBB
  clear hb1 hb2 hBw hBB HV HV1 hd0 hd1
  go_wp2_with fail
  go_loopw [10, 11, 12, 13, 14, 15, 16, 17] (fun i _ _ _ _ _ _ _ wr => ∃ j : Nat, i = .int .i64 (j : Int) ∧ j ≤ L.length ∧ wr = w2) (fun i _ _ _ _ _ _ _ wr => L.length - (intOf i).toNat)
  case atStart => exact ⟨0, rfl, Nat.zero_le _, rfl⟩
  case round =>
    obtain ⟨j, rfl, hj, rfl⟩ := hrel
    by_cases hlt : j < L.length
    · have hjl : (j : Int) < (L.length : Int) := by omega
      have hj0 : (0 : Int) ≤ (j : Int) := by omega
      by_cases hjx : j < xs.length
      · obtain ⟨b, off, rfl, hb, hcc⟩ := HX2.out (by omega)
        have hg : xs[j]? = some xs[j] := List.getElem?_eq_getElem hjx
        have hcell := hcc j _ hg
        have hmod := byte_three xs[j] (HW.out _ (List.getElem_mem hjx))
        generalize xs[j] = x at *
        have hjx' : (j : Int) < (xs.length : Int) := by omega
        clear hcc hg
        rcases hmod with hm | hm | hm
        · go_wp2_with (first
            | (go_at_call 14; refine (L3.out _).mono ?_; rintro e w3 ⟨rfl, rfl⟩))
          go_roundw
          case rel => exact ⟨j + 1, by go_num, by omega, trivial⟩
          case measure => simp [intOf]; omega
        · go_wp2_with (first
            | (go_at_call 13; refine (D1.out _).mono ?_; rintro e w3 ⟨rfl, rfl⟩)
            | (go_at_call 14; refine (L6.out _).mono ?_; rintro e w3 ⟨rfl, rfl⟩))
          go_roundw
          case rel => exact ⟨j + 1, by go_num, by omega, trivial⟩
          case measure => simp [intOf]; omega
        · go_wp2_with (first
            | (go_at_call 13; refine (D2.out _).mono ?_; rintro e w3 ⟨rfl, rfl⟩)
            | (go_at_call 14; refine (L7.out _).mono ?_; rintro e w3 ⟨rfl, rfl⟩))
          go_roundw
          case rel => exact ⟨j + 1, by go_num, by omega, trivial⟩
          case measure => simp [intOf]; omega
      · have hjx' : ¬ (j : Int) < (xs.length : Int) := by omega
        go_wp2_with (go_at_call 14; refine (L3.out _).mono ?_; rintro e w3 ⟨rfl, rfl⟩)
        go_roundw
        case rel => exact ⟨j + 1, by go_num, by omega, trivial⟩
        case measure => simp [intOf]; omega
    · have hjl : (j : Int) = (L.length : Int) := by omega
      go_wp2_with fail
      refine (alive09_any _).mono ?_
      rintro e w6 ⟨rfl, hb6⟩
      go_wp2_with fail
      go_ret
      exact ⟨rfl, HB.out.trans (hb6.mono HB.out.size)⟩

set_option maxRecDepth 100000 in
set_option maxHeartbeats 1000000 in
theorem walk_TopTold (v : Int) (ks : Fo) (A : Option Addr) (c : Nat) (hA : Option Addr) (xs : List Int) (hcap : Nat) (w : World) (hl : ks.len ≤ c) (hc : c ≤ maxLen) (hk : KidsAt w w.heap.size A 0 ks)
    (hxl : xs.length ≤ hcap) (hxc : hcap ≤ maxLen) (hx : NumsAt .u8 w w.heap.size hA xs ∧ ∀ n ∈ xs, (Lit.int .u8 n).wf = true) :
    Calls Try.prog 3 #[.agg #[.int .i64 v, .slice A ks.len c], .slice hA xs.length hcap] w fun e w' => e = .returned (.bool true) ∧ Below w.heap.size w w' := by
  cases hR : rightB v ks
  · obtain ⟨W0, hW0, hBw, hV⟩ := boxed_tree v ks A c w hk
    have hc0 := hV.1
    have hc1 := hV.2.1
    have h1 := commits_no hR W0 hl hc hV.2.2.2
    have h2 : ∀ W, Var w.heap.size A c v ks W → Calls Try.prog 11 #[.agg #[.int .i64 v, .slice A ks.len c]] W fun e W' => e = .returned (.tuple #[.slice none 0 0, .int .i64 1]) ∧ Below W.heap.size W W' := fun W hW => told_no hR W hl hc hW.2.2.2
    have H1 := Lib.hid h1; have H2 := Lib.hid h2; have HV := Lib.hid hV
    clear h1 h2 hV hR hk hx
    go_enter Try.func3, Try.ntmps3
    go_wp2_with fail
    refine H1.out.mono ?_
    rintro e w1 ⟨rfl, hb1⟩
    have hV1 := Var.below hb1 HV.out
    have hd0 := hV1.1
    have hd1 := hV1.2.1
    have HV1 := Lib.hid hV1
    clear hV1 hc0 hc1 hW0
    go_wp2_with fail
    refine (H2.out _ HV1.out).mono ?_
    rintro e w2 ⟨rfl, hb2⟩
    go_wp2_with fail
    refine (alive09_any _).mono ?_
    rintro e w3 ⟨rfl, hb3⟩
    go_wp2_with fail
    go_ret
    exact ⟨rfl, hBw.trans ((hb1.trans ((hb2.trans (hb3.mono hb2.size)).mono hb1.size)).mono hBw.size)⟩
  · cases hN : noT v ks
    · exact told_ok_true v ks A c hA xs hcap w hl hc hk hR hN hxl hxc hx
    · exact told_ok_false v ks A c hA xs hcap w hl hc hk hR hN hxl hxc hx

section
open Go.ChangeShapes Go.WideShapes Go.ChangeAt
variable {H : Type} {enc : TypeId × Value → H} {w : World} {base : Nat} {spare : Nat → Bool} {held : Bool}
theorem open_bytes {r : Reach} {b0 : Nat} {v : Value} {d : DataW H} {p : List MemPlace} (hv : Value.okWide Try.prog w r b0 25 v) (h : DataW.Trod enc Try.prog w base spare held 25 v d p) :
    ∃ (A : Option Addr) (xs : List Int) (c : Nat), v = .slice A xs.length c ∧ xs.length ≤ c ∧ c ≤ maxLen ∧ (NumsAt .u8 w w.heap.size A xs ∧ ∀ n ∈ xs, (Lit.int .u8 n).wf = true) :=
  open_nums Try.underlying25 Try.underlying5 (by kernel_rfl) hv h
end
end Go.Proofs.Ytkafoeaffcbheaa
