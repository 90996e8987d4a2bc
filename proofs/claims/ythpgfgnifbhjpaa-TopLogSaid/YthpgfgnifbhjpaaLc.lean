/- oct.Join. -/
import Derived.Test.YthpgfgnifbhjpaaLa
namespace Go.Proofs.Ythpgfgnifbhjpaa
open Go.RowKit
set_option linter.unusedVariables false

/-- A list of texts that a slice holds, in blocks of a set. -/
def PartsP (w : World) (P : Nat → Prop) (A : Option Addr) (ps : List (List Int)) : Prop :=
  0 < ps.length → ∃ b off, A = some ⟨b, off, none⟩ ∧ P b ∧ ∀ i p, ps[i]? = some p → ∃ A' c', w.cell? ⟨b, off + i, none⟩ = some (.slice A' p.length c') ∧ p.length ≤ c' ∧ c' ≤ maxLen ∧ BytesP w P A' p
theorem PartsP.keep {w w' : World} {P P' : Nat → Prop} {A : Option Addr} {ps : List (List Int)} (h : PartsP w P A ps) (hP : ∀ b, P b → b < w.heap.size → P' b ∧ w'.heap[b]? = w.heap[b]?) : PartsP w' P' A ps := fun hp => by
  obtain ⟨b, off, e, hb, hc⟩ := h hp
  obtain ⟨x0, hx0⟩ : ∃ x0, ps[0]? = some x0 := ⟨ps[0], List.getElem?_eq_getElem hp⟩
  have hlt : b < w.heap.size := by
    obtain ⟨A', c', h0, _⟩ := hc 0 x0 hx0
    exact World.block_lt_of_cell? w _ h0
  obtain ⟨h1, h2⟩ := hP b hb hlt
  refine ⟨b, off, e, h1, fun i x hx => ?_⟩
  obtain ⟨A', c', h0, hl, hm, hB⟩ := hc i x hx
  exact ⟨A', c', (World.cell?_of_block (a := ⟨b, off + i, none⟩) h2).trans h0, hl, hm, hB.keep hP⟩
theorem PartsP.below {w w' : World} {P : Nat → Prop} {A : Option Addr} {ps : List (List Int)} (h : PartsP w P A ps) (hb : Below w.heap.size w w') : PartsP w' P A ps :=
  h.keep fun b hp hlt => ⟨hp, hb.block b hlt⟩

def hdr (n : Nat) : List Int := [(n : Int) / 256, (n : Int) % 256]
def joinF : List (List Int) → List Int
  | [] => []
  | p :: ps => hdr p.length ++ (p ++ joinF ps)

theorem long_no (A : Option Addr) (n c : Nat) (w : World) (h : n ≤ 60) : Calls Try.prog 21 #[.slice A n c] w fun e w' => e = .returned (.bool false) ∧ w = w' := by
  have h1 : ¬ (65535 : Int) < (n : Int) := by omega
  go_enter Try.func21, Try.ntmps21
  go_wp2
  go_ret
  exact ⟨rfl, rfl⟩

set_option maxHeartbeats 1000000 in
theorem index_no (P : Nat → Prop) (A : Option Addr) (ps : List (List Int)) (c : Nat) (w : World) (hA : PartsP w P A ps) (hn : ps.length ≤ 10) (hs : ∀ p ∈ ps, p.length ≤ 60) :
    Calls Try.prog 29 #[.slice A ps.length c, .func (.func 21) #[] #[]] w fun e w' => e = .returned (.int .i64 (-1)) ∧ w = w' := by
  go_enter Try.func29, Try.ntmps29
  go_wp2
  go_loop [5, 8] (fun _ i => ∃ (k : Nat), k ≤ ps.length ∧ i = .int .i64 k) (fun _ i => ps.length - (intOf i).toNat)
  case atStart => exact ⟨0, Nat.zero_le _, rfl⟩
  case round =>
    obtain ⟨k, hk, rfl⟩ := hrel
    by_cases hlt : k < ps.length
    · obtain ⟨b, off, rfl, -, hc⟩ := hA (by omega)
      obtain ⟨A', c', hcell, -, -, -⟩ := hc k _ (List.getElem?_eq_getElem hlt)
      have hsm := hs ps[k] (List.getElem_mem hlt)
      generalize ps[k] = p at hcell hsm
      have hkl : (k : Int) < (ps.length : Int) := by omega
      have hj := fun w => long_no A' p.length c' w hsm
      have HJ := Lib.hid hj
      clear hc hj
      go_wp2_with (go_at_call 21; refine (HJ.out _).mono ?_; rintro e w1 ⟨rfl, rfl⟩)
      go_round
      case rel => exact ⟨k + 1, by omega, by go_num⟩
      case measure => simp [intOf]; omega
    · have hkl : ¬ (k : Int) < (ps.length : Int) := by omega
      go_wp2
      go_ret
      exact ⟨rfl, rfl⟩

theorem contains_no (P : Nat → Prop) (A : Option Addr) (ps : List (List Int)) (c : Nat) (w : World) (hA : PartsP w P A ps) (hn : ps.length ≤ 10) (hs : ∀ p ∈ ps, p.length ≤ 60) :
    Calls Try.prog 20 #[.slice A ps.length c, .func (.func 21) #[] #[]] w fun e w' => e = .returned (.bool false) ∧ w = w' := by
  have h := index_no P A ps c w hA hn hs
  have H := Lib.hid h
  clear h
  go_enter Try.func20, Try.ntmps20
  go_wp2_with (go_at_call 29; refine H.out.mono ?_; rintro e w1 ⟨rfl, rfl⟩)
  go_ret
  exact ⟨rfl, rfl⟩

theorem joinF_len : ∀ ps : List (List Int), (∀ p ∈ ps, p.length ≤ 60) → (joinF ps).length ≤ 62 * ps.length
  | [], _ => Nat.le_refl _
  | p :: ps, h => by
    have h1 := h p (List.mem_cons_self ..)
    have h2 := joinF_len ps fun q hq => h q (List.mem_cons_of_mem _ hq)
    simp only [joinF, hdr, List.length_append, List.length_cons, List.length_nil]
    omega
theorem joinF_bytes : ∀ ps : List (List Int), (∀ p ∈ ps, p.length ≤ 60 ∧ Bytes p) → Bytes (joinF ps)
  | [], _ => fun x hx => by cases hx
  | p :: ps, h => fun x hx => by
    have h1 := h p (List.mem_cons_self ..)
    have h2 := joinF_bytes ps fun q hq => h q (List.mem_cons_of_mem _ hq)
    simp only [joinF, hdr, List.mem_append, List.mem_cons, List.not_mem_nil, or_false] at hx
    rcases hx with (rfl | rfl) | hx | hx
    · omega
    · omega
    · exact h1.2 x hx
    · exact h2 x hx
theorem two_bytes (W : World) (x y : Int) : BytesAt (W.alloc (.cells #[.int .u8 x, .int .u8 y] 5)) (some ⟨W.heap.size, 0, none⟩) [x, y] := fun _ =>
  ⟨_, _, rfl, trivial, fun i z hz => by
    match i with
    | 0 => simp at hz; subst hz; simp
    | 1 => simp at hz; subst hz; simp
    | i + 2 => simp at hz⟩

set_option maxRecDepth 100000 in
set_option maxHeartbeats 2000000 in
theorem join_any (P : Nat → Prop) (A : Option Addr) (ps : List (List Int)) (c : Nat) (w : World) (hA : PartsP w P A ps) (hn : ps.length ≤ 10) (hs : ∀ p ∈ ps, p.length ≤ 60) :
    Calls Try.prog 7 #[.slice A ps.length c] w fun e w' => ∃ sv, e = .returned (.tuple #[sv, .int .i64 0]) ∧ w'.ownsRow w.heap.size 5 1 sv (joinF ps).length ((joinF ps).map (Value.int .u8)) ∧ Below w.heap.size w w' := by
  have h := contains_no P A ps c w hA hn hs
  have H := Lib.hid h
  have hn1 : ¬ (1000 : Int) < (ps.length : Int) := by omega
  clear h
  go_enter Try.func7, Try.ntmps7
  go_wp2_with (go_at_call 20; refine H.out.mono ?_; rintro e w1 ⟨rfl, rfl⟩)
  go_loopw [4, 6, 16] (fun lv _ i wr => ∃ (k : Nat) (got : List Int), k ≤ ps.length ∧ i = .int .i64 k ∧ wr.ownsRow w.heap.size 5 1 lv got.length (got.map (Value.int .u8)) ∧ got ++ joinF (ps.drop k) = joinF ps ∧ Below w.heap.size w wr) (fun _ _ i _ => ps.length - (intOf i).toNat)
  case atStart => exact ⟨0, [], Nat.zero_le _, rfl, World.ownsRow_nil _ _ _ _, rfl, Below.refl _ _⟩
  case round =>
    obtain ⟨k, got, hk, rfl, hown, hgj, hB⟩ := hrel
    by_cases hlt : k < ps.length
    · obtain ⟨b, off, rfl, -, hc⟩ := hA (by omega)
      obtain ⟨A', c', hcw, hl', hc', hby⟩ := hc k _ (List.getElem?_eq_getElem hlt)
      have hcell := (hB.cell (p := ⟨b, off + k, none⟩) (World.block_lt_of_cell? w _ hcw)).trans hcw
      have hsm := hs ps[k] (List.getElem_mem hlt)
      have hgl : got.length ≤ 620 := by
        have h1 := congrArg List.length hgj
        have h2 := joinF_len ps hs
        simp only [List.length_append] at h1
        omega
      rw [List.drop_eq_getElem_cons hlt, joinF] at hgj
      generalize ps[k] = p at hcell hsm hby hl' hgj
      have hkl : (k : Int) < (ps.length : Int) := by omega
      have HO := Lib.hid hown; have HG := Lib.hid hgj; have HBY := Lib.hid hby.any
      have htwo : ∀ x y, BytesAt (wr.alloc (.cells #[.int .u8 x, .int .u8 y] 5)) (some ⟨wr.heap.size, 0, none⟩) [x, y] := two_bytes wr
      have HT := Lib.hid htwo
      clear hc hcw hown hgj hby htwo
      have hpi : (p.length : Int) ≤ 60 := by omega
      have hhd : hdr p.length = [(p.length : Int) / 256, (p.length : Int)] := by
        simp only [hdr, List.cons.injEq, and_true, true_and]
        omega
      have HH := Lib.hid hhd
      have hbl := below_alloc (Below.refl _ wr) (.cells #[.int .u8 ((p.length : Int) / 256), .int .u8 (p.length : Int)] 5)
      have HBL := Lib.hid hbl
      have hBs := hB.size
      clear hhd hbl
      go_wp2_with (at_builtin; go_must (refine wpList_append_bytes rfl _ _ rfl w.heap.size _ got [(p.length : Int) / 256, (p.length : Int)] rfl (HO.out.alloc _) (some ⟨wr.heap.size, 0, none⟩) 2 2 rfl rfl (HT.out _ _) (by simp only [List.length_cons, List.length_nil]; omega) (by simp; omega) ?_); intro v2 w2 hown2 hg2 hb2; go_must (
        have hB2 : Below w.heap.size w w2 := (hB.trans (HBL.out.mono hBs)).trans hb2
        have hby2 : BytesAt w2 A' p := HBY.out.below hB2
        have HB2 := Lib.hid hby2
        have HO2 := Lib.hid hown2
        clear hby2 hown2 hg2
        go_wp2_with (at_builtin; go_must (refine wpList_append_bytes rfl _ _ rfl w.heap.size _ (got ++ [(p.length : Int) / 256, (p.length : Int)]) p rfl HO2.out A' p.length c' rfl rfl HB2.out (by simp only [List.length_append, List.length_cons, List.length_nil]; omega) (by have := hB2.size; omega) ?_); intro v3 w3 hown3 hg3 hb3; go_must (
          have HO3 := Lib.hid hown3
          clear hown3
          go_wp2_with fail
          go_roundw
          case rel =>
            refine ⟨k + 1, got ++ [(p.length : Int) / 256, (p.length : Int)] ++ p, by omega, by go_num, HO3.out, ?_, hB2.trans hb3⟩
            rw [← HG.out, HH.out]
            simp [List.append_assoc]
          case measure => simp [intOf]; omega))))
    · have hkl : ¬ (k : Int) < (ps.length : Int) := by omega
      have hg : got = joinF ps := by rw [← hgj, show k = ps.length by omega, List.drop_length, joinF, List.append_nil]
      subst hg
      have HO := Lib.hid hown
      clear hgj hown
      go_wp2
      go_ret2
      exact ⟨_, rfl, HO.out, hB⟩
end Go.Proofs.Ythpgfgnifbhjpaa
