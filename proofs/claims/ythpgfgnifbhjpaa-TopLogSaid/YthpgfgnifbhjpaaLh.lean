/- wal: the log in memory; Add. -/
import Derived.Test.YthpgfgnifbhjpaaLe
import Derived.Test.YthpgfgnifbhjpaaLg
import Derived.Deep.CutRange
namespace Go.Proofs.Ythpgfgnifbhjpaa
open Go.RowKit
set_option linter.unusedVariables false

/-- A log at block L over the tape at block T; its own records' row lies from base on. -/
def LogP (w : World) (L T base m : Nat) : Prop :=
  (w.cell? ⟨L, 0, none⟩ = some (.pointer (some ⟨T, 0, none⟩)) ∧ IsT w 58 L ∧ w.frozen? ⟨L, 1, none⟩ = false) ∧ ∃ A n c ys, w.cell? ⟨L, 1, none⟩ = some (.slice A n c) ∧ w.ownsRow base 39 2 (.slice A n c) n ys ∧ (∀ u ∈ ys, u.oneCell' = true) ∧ n ≤ m
theorem LogP.kept {w w' : World} {L T base m : Nat} (h : LogP w L T base m) {row : Option Nat} (hg : w.grownBy w' row) (hL : some L ≠ row) (hr : ∀ r, row = some r → ¬ IsT w 39 r) : LogP w' L T base m := by
  obtain ⟨⟨h0, h1, h2⟩, A, n, c, ys, h3, h4, h5, h6⟩ := h
  have hb := hg.block L h1.lt hL
  refine ⟨⟨(World.cell?_of_block (a := ⟨L, 0, none⟩) hb).trans h0, h1.grown hg hL, (World.frozen?_of_block (a := ⟨L, 1, none⟩) hb).trans h2⟩, A, n, c, ys, (World.cell?_of_block (a := ⟨L, 1, none⟩) hb).trans h3, h4.kept hg ?_, h5, h6⟩
  cases hv : (Value.slice A n c).ownBlock with
  | none => exact .inl rfl
  | some g =>
    refine .inr fun e => hr g e.symm ?_
    exact own_isT h4 hv
theorem LogP.below {w w' : World} {L T base m : Nat} (h : LogP w L T base m) (hb : Below w.heap.size w w') : LogP w' L T base m := h.kept (grown_of_below hb none) (by simp) (by simp)

theorem recs_one {W : World} {k : Int} {A : Option Addr} {body : List Int} {c : Nat} (hB : BytesAt W A body) (hl : body.length ≤ c) (hc : c ≤ maxLen) :
    RecsP (W.alloc (.cells #[.int .i64 k, .slice A body.length c] 39)) (fun _ => True) (some ⟨W.heap.size, 0, none⟩) [(k, body)] := fun _ =>
  ⟨_, _, rfl, trivial, fun i r hr => by
    match i with
    | 0 =>
      simp at hr
      subst hr
      exact ⟨A, c, by simp, by simp, hl, hc, hB.below (below_alloc (Below.refl _ _) _)⟩
    | i + 1 => simp at hr⟩

theorem LogP.store {w : World} {L T base m : Nat} (h0 : w.cell? ⟨L, 0, none⟩ = some (.pointer (some ⟨T, 0, none⟩))) (h1 : IsT w 58 L) (h2 : w.frozen? ⟨L, 1, none⟩ = false) {u : Value} (h3 : w.cell? ⟨L, 1, none⟩ = some u)
    {A : Option Addr} {n c : Nat} {ys : List Value} (h4 : w.ownsRow base 39 2 (.slice A n c) n ys) (h5 : ∀ u ∈ ys, u.oneCell' = true) (h6 : n ≤ m) : LogP (w.setCell ⟨L, 1, none⟩ (.slice A n c)) L T base m := by
  refine ⟨⟨?_, h1.setCell _ _ _, by rw [World.frozen?_setCell]; exact h2⟩, A, n, c, ys, World.cell?_setCell_same' _ _ _ (by rw [h3]; rfl), ?_, h5, h6⟩
  · rw [World.cell?_setCell_other _ _ _ _ (by simp)]; exact h0
  · refine h4.kept (grown_set (World.grownBy.refl w (some L)) 1 _) ?_
    cases hv : (Value.slice A n c).ownBlock with
    | none => exact .inl rfl
    | some g => exact .inr fun e => by injection e with e; exact absurd e.symm (h1.ne (own_isT h4 hv) (by decide))
theorem bytes8 {w w' : World} {A : Option Addr} {xs : List Int} (h : BytesP w (IsT w 5) A xs) {row : Option Nat} (hg : w.grownBy w' row) (hr : ∀ r, row = some r → ¬ IsT w 5 r) : BytesP w' (IsT w' 5) A xs :=
  h.keep fun b hb hlt => by
    have hne : some b ≠ row := fun e => hr b e.symm hb
    exact ⟨hb.grown hg hne, hg.block b hlt hne⟩
theorem bytes8_below {w w' : World} {A : Option Addr} {xs : List Int} (h : BytesP w (IsT w 5) A xs) (hb : Below w.heap.size w w') : BytesP w' (IsT w' 5) A xs := bytes8 h (grown_of_below hb none) (by simp)
theorem below_grown {N : Nat} {w w' : World} {row : Option Nat} (hg : w.grownBy w' row) (hN : N ≤ w.heap.size) (hr : ∀ r, row = some r → N ≤ r) : Below N w w' := (Below.refl N w).grown hg hN hr

set_option maxRecDepth 100000 in
set_option maxHeartbeats 8000000 in
theorem add_any (N L T base m : Nat) (room k : Int) (A : Option Addr) (body : List Int) (c : Nat) (fc : Bool) (xs : List Int) (f : Nat) (w : World) (hN : N ≤ T ∧ N ≤ L ∧ N ≤ base ∧ base ≤ w.heap.size)
    (hL : LogP w L T base m) (hT : Tape8 w T room xs f) (h0 : 0 < room) (hx : xs.length ≤ 60000) (hr : (xs.length : Int) + (body.length + 7) ≤ room) (hr2 : room ≤ 65536) (hm : m ≤ 100)
    (h1 : 1 ≤ k) (h2 : k ≤ 255) (hl : body.length ≤ 1024) (hb : Bytes body) (hA : BytesP w (IsT w 5) A body) (hlc : body.length ≤ c) (hcm : c ≤ maxLen) :
    Calls Try.prog 8 #[.pointer (some ⟨L, 0, none⟩), .agg #[.int .i64 k, .slice A body.length c], .bool fc] w fun e w' =>
      e = .returned (.int .i64 0) ∧ LogP w' L T base (m + 1) ∧ Tape8 w' T room (xs ++ recF k body) (if fc = true then (xs ++ recF k body).length else f) ∧ Below N w w' := by
  obtain ⟨w0, hw0⟩ : ∃ w0, w.alloc (.cells #[.int .i64 k, .slice A body.length c] 39) = w0 := ⟨_, rfl⟩
  have hz : w0.heap.size = w.heap.size + 1 := by rw [← hw0]; simp
  have hbox0 : w0.cell? ⟨w.heap.size, 0, none⟩ = some (.int .i64 k) := by rw [← hw0]; simp
  have hbox : w0.cell? ⟨w.heap.size, 1, none⟩ = some (.slice A body.length c) := by rw [← hw0]; simp
  have hBw : Below w.heap.size w w0 := by rw [← hw0]; exact (Below.refl _ _).alloc (Nat.le_refl _) _
  have hL0 := hL.below hBw
  have hT0 := hT.below hBw
  have hA0 := bytes8_below hA hBw
  have hTw := hT.lt
  have hm0 := log_made L T w0 hL0.1.1
  have hwr := write_any k A body c w0 h1 h2 hl hb hA0.any
  have c0 := hL0.1.1
  have hNw : N ≤ w.heap.size := by omega
  have HM := Lib.hid hm0; have HW := Lib.hid hwr; have HL0 := Lib.hid hL0; have HT0 := Lib.hid hT0; have HA0 := Lib.hid hA0; have HBw := Lib.hid hBw
  have hrl := recF_len k body
  have hrb := recF_bytes h1 h2 hb hl
  clear hm0 hwr hL0 hT0 hA0 hBw hL hT hA
  go_enter Try.func8, Try.ntmps8
  go_wp2_with (go_at_call 22; refine HM.out.mono ?_; clear HM; rintro e wz ⟨rfl, rfl⟩)
  refine HW.out.mono ?_
  rintro e w1 ⟨sv, rfl, hown1, hb1⟩
  obtain ⟨A1, c1, rfl, hl1, hc1, hy1⟩ := bytes_of_own (P := fun _ => True) hown1 (fun _ _ => trivial)
  have hL1 := HL0.out.below hb1
  have hT1 := HT0.out.below hb1
  have hA1 := bytes8_below HA0.out hb1
  have hs1 := hb1.size
  have d0 := hL1.1.1
  have e0 := below_cellOf hb1 (by omega) hbox0
  have e1 := below_cellOf hb1 (by omega) hbox
  have hap := tape8_append T room xs (recF k body) f A1 c1 w1 h0 hT1 (by omega) (by omega) (by rw [hrl]; omega) hr2 hy1
  have HAP := Lib.hid hap; have HL1 := Lib.hid hL1; have HT1 := Lib.hid hT1; have HA1 := Lib.hid hA1; have HB1 := Lib.hid hb1; have HRL := Lib.hid hrl
  clear hap hL1 hT1 hA1 hb1 hown1 hy1 HW HL0 HT0 HA0 hbox0 hbox c0 hw0 hrl hl1
  generalize hrc : recF k body = rc at *
  have HRC := Lib.hid hrc
  clear hrc
  go_wp2_with fail
  refine HAP.out.mono ?_
  rintro e w2 ⟨rfl, hT2, hg2⟩
  have hLT : L ≠ T := HL1.out.1.2.1.ne HT1.out.1 (by decide)
  have hL2 := HL1.out.kept hg2 (by simp; exact hLT) (fun r e => by injection e with e; subst e; exact fun h => absurd rfl (h.ne HT1.out.1 (by decide)))
  have f0 := hg2.cell e0 (by simp; omega)
  have f1 := hg2.cell e1 (by simp; omega)
  have hs2 := hg2.size
  have hA2 := bytes8 HA1.out hg2 (fun r e => by injection e with e; subst e; exact fun h => absurd rfl (h.ne HT1.out.1 (by decide)))
  have hB2 : Below N w w2 := (HBw.out.mono hNw).trans ((HB1.out.mono (by omega)).trans (below_grown hg2 (by omega) (fun r e => by injection e with e; omega)))
  have hcp := copies_any (some ⟨w2.heap.size, 0, none⟩) [(k, body)] 1 (w2.alloc (.cells #[.int .i64 k, .slice A body.length c] 39)).drew (fun _ => True) ((recs_one (W := w2) hA2.any hlc hcm).keep (fun b hp _ => ⟨hp, rfl⟩)) (by simp) (by simp; exact hl)
  obtain ⟨⟨g0, gT, gf⟩, RA, rn, rcp, rys, g1, hro, hry, hrm⟩ := hL2
  obtain ⟨i0, hi, hz0, hz1, hz2⟩ := info_parts info_rec
  have hba := below_drew (below_alloc (Below.refl _ w2) (.cells #[.int .i64 k, .slice A body.length c] 39))
  have HCP := Lib.hid hcp; have HRO := Lib.hid hro; have HRY := Lib.hid hry; have HT2 := Lib.hid hT2; have HB2 := Lib.hid hB2; have HBA := Lib.hid hba; have HGT := Lib.hid gT
  clear hcp hro hry hT2 hB2 hba hA2 hg2 gT HAP HL1 HT1 HA1 HB1 HBw d0 e0 e1 hrb
  have zL1 := (World.cell?_alloc_lt w2 (.cells #[.int .i64 k, .slice A body.length c] 39) ⟨L, 1, none⟩ (World.block_lt_of_cell? _ _ g1)).trans g1
  go_wp2_with fail
  go_cut [] from 30 to 40 (fun wx => LogP wx L T base (m + 1) ∧ Tape8 wx T room (xs ++ rc) f ∧ Below N w wx)
  case first =>
    go_region_law
      (first
        | (go_simp; go_at_call 19; refine HCP.out.mono ?_; rintro e w3 ⟨sv3, ys3, rfl, hown3, hone3, hb3⟩; obtain ⟨g3, c3, rfl⟩ := ownsRow_succ (k := 0) hown3; have hb23 : Below w2.heap.size w2 w3 := (HBA.out.trans (hb3.mono HBA.out.size)); have q1 := below_cellOf hb23 (World.block_lt_of_cell? _ _ g1) g1; have q0 := below_cellOf hb23 (World.block_lt_of_cell? _ _ g0) g0; have qf := (hb23.frozen (p := ⟨L, 1, none⟩) HGT.out.lt).trans gf; have hro3 := HRO.out.kept (grown_of_below hb23 none) (own_none HRO.out))
        | (refine step_append_any _ rfl _ _ _ rfl base 39 i0 _ 2 32 Try.underlying30 hi hz0 hz1 hz2 rfl (by omega) (.slice RA rn rcp) rn rys rfl hro3 w3.heap.size (some ⟨g3, 0, none⟩) 1 c3 ys3 rfl (Reads.of_own hown3) hone3 (by unfold maxLen; omega) (by omega) (by have := hb23.size; omega) ?_; intro v4 w4 hown4 hg4 hob4; obtain ⟨g4, c4, rfl⟩ := ownsRow_succ hown4; have hT3 := HGT.out.grown (grown_of_below hb23 none) (by simp); have hLne : some L ≠ (Value.slice RA rn rcp).ownBlock := fun e => absurd rfl (hT3.ne (own_isT hro3 e.symm) (by decide)); have p1 := hg4.cell q1 hLne; have p0 := hg4.cell q0 hLne; have pf := (World.frozen?_of_block (a := ⟨L, 1, none⟩) (hg4.block L hT3.lt hLne)).trans qf))
    all_goals have hL4 := Lib.hid (LogP.store (base := base) (m := m + 1) p0 (hT3.grown hg4 hLne) pf p1 hown4 (fun u hu => by
      rcases List.mem_append.1 hu with h | h
      · exact HRY.out u h
      · exact hone3 u h) (by omega))
    all_goals have hT4 := Lib.hid (((HT2.out.below hb23).kept hg4 (fun e => absurd rfl ((HT2.out.below hb23).1.ne (own_isT hro3 e.symm) (by decide))) (fun r e h => absurd rfl (h.ne (own_isT hro3 e) (by decide)))).kept (grown_set (World.grownBy.refl w4 (some L)) 1 (.slice (some ⟨g4, 0, none⟩) (rn + 1) c4)) (by simp; exact fun e => hLT e.symm) (fun r e h => by injection e with e; subst e; exact absurd rfl (h.ne (hT3.grown hg4 hLne) (by decide))))
    all_goals have hB4 := Lib.hid (HB2.out.trans ((hb23.mono (by omega)).trans ((below_grown hg4 (by have := hb23.size; omega) (fun r e => by have := (hro3.lt r e).1; omega)).trans (below_grown (N := N) (grown_set (World.grownBy.refl w4 (some L)) 1 (.slice (some ⟨g4, 0, none⟩) (rn + 1) c4)) (by have := hb23.size; have := hg4.size; omega) (fun r e => by injection e with e; omega)))))
    all_goals clear hown3 hone3 hb3 hb23 q1 q0 qf hro3 hown4 hg4 hob4 hT3 hLne p1 p0 pf zL1 g1 g0 gf f0 f1
    all_goals (go_wp2_with fail; go_meet)
    all_goals exact ⟨hL4.out, hT4.out, hB4.out⟩
  case rest =>
    obtain ⟨hLx, hTx, hBx⟩ := hcut
    have d0 := hLx.1.1
    have HLX := Lib.hid hLx; have HTX := Lib.hid hTx; have HBX := Lib.hid hBx
    clear hLx hTx hBx zL1 g1 g0 gf f0 f1 HCP HRO HRY HT2 HB2 HBA HGT
    cases fc
    · go_wp2_with fail
      go_ret
      exact ⟨rfl, HLX.out, by rw [HRC.out]; simpa using HTX.out, HBX.out⟩
    · go_wp2_with fail
      refine (tape8_force T room (xs ++ rc) f wc h0 HTX.out).mono ?_
      rintro e w7 ⟨rfl, hT7, hg7⟩
      have hL7 := HLX.out.kept hg7 (by simp; exact hLT) (fun r e h => by injection e with e; subst e; exact absurd rfl (h.ne HTX.out.1 (by decide)))
      have hB7 := HBX.out.trans (below_grown (N := N) hg7 (by have := HBX.out.size; omega) (fun r e => by injection e with e; omega))
      have HL7 := Lib.hid hL7; have HT7 := Lib.hid hT7; have HB7 := Lib.hid hB7
      clear hL7 hT7 hB7 hg7
      go_wp2_with fail
      go_ret
      exact ⟨rfl, HL7.out, by rw [HRC.out]; simpa using HT7.out, HB7.out⟩
end Go.Proofs.Ythpgfgnifbhjpaa
