/- oct.Split, the walk. -/
import Derived.Test.YthpgfgnifbhjpaaLm
namespace Go.Proofs.Ythpgfgnifbhjpaa
open Go.RowKit Go.Shelf

attribute [local go_sem] Oper.semAt_some
set_option linter.unusedVariables false

set_option maxRecDepth 100000 in
set_option maxHeartbeats 4000000 in
theorem split_in (n : Nat) (hn : 3 ≤ n) (A : Option Addr) (c : Nat) (b : List Int) (ps : List (List Int)) (w : World)
    (hb : b = joinF ps) (hps : ∀ p ∈ ps, p.length ≤ 60 ∧ Bytes p) (hpl : ps.length ≤ 10) (hlen : b.length ≤ 100000) (hlc : b.length ≤ c) (hcm : c ≤ maxLen) (hA : BytesAt w A b) :
    CallsIn Fence.wide n Try.prog 10 #[.slice A b.length c] w fun e W' => ∃ A' c', e = .returned (.tuple #[.slice A' ps.length c', .agg #[.int .i64 0, .int .i64 0]]) ∧ ps.length ≤ c' ∧ c' ≤ maxLen ∧ PartsP W' (fun _ => True) A' ps ∧ Below w.heap.size w W' := by
  have h1 : 1 ≤ n := by omega
  have HBE := Lib.hid hb; have HPS := Lib.hid hps
  clear hb hps
  obtain ⟨i0, hi, hz0, hz1, hz2⟩ := info_parts info_part
  have hA0 : BytesP w (· < w.heap.size) A b := fun hp => by
    obtain ⟨b', off, e, _, hcc⟩ := hA hp
    exact ⟨b', off, e, World.block_lt_of_cell? w _ (hcc 0 _ (List.getElem?_eq_getElem hp)), hcc⟩
  refine callsIn_of_wp_marks Try.func10 rfl trivial ?_ rfl
  simp only [Try.ntmps10, List.size_toArray, List.length_cons, List.length_nil, Nat.reduceAdd, Nat.reduceSub, Array.replicate_succ, Array.replicate_zero, List.push_toArray, List.append_toArray, List.nil_append, List.cons_append]
  gi_wp2
  apply wpIn_scope_wide
  gi_wp2
  apply wpIn_label
  gi_wp2_with (refine ⟨trivial, ?_⟩; gi_at_call 26; refine (octwalk_in (n - 1) _ _ _ _).mono ?_; rintro e w' ⟨rfl, rfl⟩)
  have bF := Two.new w 42 (.int .i64 0) (.int .i64 0)
  have bO := Boxed.new (w.alloc (.cells #[.int .i64 0, .int .i64 0] 42)) 33 (.slice none 0 0)
  have bG := Two.new ((w.alloc (.cells #[.int .i64 0, .int .i64 0] 42)).alloc (.cells #[.slice none 0 0] 33)) 42 (.int .i64 0) (.int .i64 0)
  have bB := Boxed.new (((w.alloc (.cells #[.int .i64 0, .int .i64 0] 42)).alloc (.cells #[.slice none 0 0] 33)).alloc (.cells #[.int .i64 0, .int .i64 0] 42)) 34 (.slice A b.length c)
  rw [World.size_alloc] at bO
  rw [World.size_alloc, World.size_alloc] at bG
  rw [World.size_alloc, World.size_alloc, World.size_alloc] at bB
  obtain ⟨w3, hw3⟩ : ∃ w3, (((w.alloc (.cells #[.int .i64 0, .int .i64 0] 42)).alloc (.cells #[.slice none 0 0] 33)).alloc (.cells #[.int .i64 0, .int .i64 0] 42)).alloc (.cells #[.slice A b.length c] 34) = w3 := ⟨_, rfl⟩
  have hB0 : Below w.heap.size w w3 := by rw [← hw3]; exact below_alloc (below_alloc (below_alloc (below_alloc (Below.refl _ _) _) _) _) _
  have z3 : w3.heap.size = w.heap.size + 1 + 1 + 1 + 1 := by rw [← hw3]; simp
  have f3 : Two w3 w.heap.size 42 (.int .i64 0) (.int .i64 0) := by rw [← hw3]; exact ((bF.alloc _).alloc _).alloc _
  have o3 : Boxed w3 (w.heap.size + 1) 33 (.slice none 0 0) := by rw [← hw3]; exact (bO.alloc _).alloc _
  have g3 : Two w3 (w.heap.size + 1 + 1) 42 (.int .i64 0) (.int .i64 0) := by rw [← hw3]; exact bG.alloc _
  have b3 : Boxed w3 (w.heap.size + 1 + 1 + 1) 34 (.slice A b.length c) := by rw [← hw3]; exact bB
  have c3 := b3.cell
  rw [hw3]
  clear bO bF bG bB hw3 hi hz0 hz1 hz2
  refine rangeV rfl h1 (gf := 31) (lb := #[.pointer (some ⟨w.heap.size + 1 + 1 + 1, 0, none⟩)]) rfl trivial (enters_of Try.func31 (by kernel_rfl) rfl)
    (octwalk_seq (n - 1) w.heap.size (w.heap.size + 1 + 1 + 1) A c b ps w3 HBE.out HPS.out hlen hlc hcm (by omega) c3 (hA0.keep fun b' hb' hlt => ⟨hb', hB0.block b' hlt⟩) (by omega))
    (fun h k => KB.trans h k) (fun W l o o' hl h => ⟨below_put (w := w3) (by omega) W l o o' hl h, World.putObj_heap_other (by omega)⟩) (Below.refl _ _) (fun _ => rfl)
    (fun pre W => ∃ sv, Boxed W (w.heap.size + 1) 33 sv ∧ W.ownsRow (w.heap.size + 1 + 1 + 1 + 1) 34 1 sv pre.length (partVals pre) ∧ Two W (w.heap.size + 1 + 1) 42 (.int .i64 0) (.int .i64 0) ∧ Two W w.heap.size 42 (.int .i64 0) (.int .i64 0) ∧
      (∀ x ∈ pre, PIt.V w.heap.size x W) ∧ Below w.heap.size w W ∧ Boxed W (w.heap.size + 1 + 1 + 1) 34 (.slice A b.length c) ∧ w.heap.size + 1 + 1 + 1 + 1 ≤ W.heap.size)
    (fun s W W' ht ⟨sv, q1, q2, q3, q4, q5, q6, q7, q8⟩ => ⟨sv, boxed_turn q1 ht, own_turn q2 ht, q3.turn ht, q4.turn ht, fun x hx => own_turn (q5 x hx) ht, below_turn q6 (Nat.le_refl _) (by omega) ht, boxed_turn q7 ht, by obtain ⟨row, hg, -⟩ := ht; exact Nat.le_trans q8 hg.size⟩)
    (fun x W W' ht h => own_turn h ht)
    ⟨_, o3, World.ownsRow_nil _ _ _ _, g3, f3, by simp, hB0, b3, by omega⟩
    (fun x a' W => a' = { tmps := #[.slice A b.length c, undef, .slice none 0 0, .pointer (some ⟨w.heap.size, 0, none⟩), .pointer (some ⟨w.heap.size + 1, 0, none⟩), .pointer (some ⟨w.heap.size + 1 + 1, 0, none⟩), .int .i64 x.e, .slice (some ⟨x.G, 0, none⟩) x.part.length x.c, .agg #[.int .i64 0, .int .i64 0], .slice A b.length c,
        .func (.func 31) #[] #[.pointer (some ⟨w.heap.size + 1 + 1 + 1, 0, none⟩)], .int .i64 x.e, .slice (some ⟨x.G, 0, none⟩) x.part.length x.c, undef, undef, undef, undef, undef, undef, undef, undef, undef, undef, undef, undef, undef, undef, undef, undef, undef, undef, undef, undef], defers := [] })
    (fun x a' W W' ht q => q)
    ?assign ?body ?done
  case assign =>
    rintro l pre x W K hpre hv hK
    unfold PIt.enc
    gi_wp2
    exact hK _ _ (KeepsOthers.refl _) (KB.refl _ _ _) hpre hv rfl
  case body =>
    rintro l pre x a' W ⟨sv, q1, q2, q3, q4, q5, q6, q7, q8⟩ hv rfl hlt
    obtain ⟨A1, c1, rfl⟩ := own_slice q2
    have hc0 := q1.cell
    have hf0 := q1.frozen
    have he : ∀ w : World, (binOp .eql 34 (.slice (some ⟨x.G, 0, none⟩) x.part.length x.c) (.slice none 0 0)).run Try.prog w = .ok (.bool false) w := fun _ => by kernel_rfl
    have hne : ((pre.length : Int) == 1000) = false := by simp; omega
    obtain ⟨i0, hi, hz0, hz1, hz2⟩ := info_parts info_part
    have hpl : pre.length < 10 := by omega
    have Q1 := Lib.hid q1; have Q2 := Lib.hid q2; have Q3 := Lib.hid q3; have Q4 := Lib.hid q4; have Q5 := Lib.hid q5; have Q6 := Lib.hid q6; have Q7 := Lib.hid q7; have HV := Lib.hid hv
    clear q1 q2 q3 q4 q5 q6 q7 hv
    gi_wp2_with (gi_at_builtin; go_must (refine wpListIn_append_own _ rfl _ _ 33 rfl (w.heap.size + 1 + 1 + 1 + 1) 34 i0 (.slice none 0 0) 1 24 Try.underlying33 hi hz0 hz1 hz2 rfl (by decide) (.slice A1 pre.length c1) pre.length (partVals pre) rfl (Q2.out.alloc _) ⟨W.heap.size, 0, none⟩ 1 1 [.slice (some ⟨x.G, 0, none⟩) x.part.length x.c] rfl rfl (cell_one_new _ _ _) (by simp [Value.oneCell']) (by unfold maxLen; omega) (by omega) (by simp; omega) ?_; intro v3 w4 hown3 hgrow3 _; obtain ⟨g3, cap3, rfl⟩ := ownsRow_succ hown3; obtain ⟨hv1, hv2, hr2, hk2, hb3⟩ := boxed_appended (n₀ := w.heap.size) Q1.out (by decide) Q2.out (by omega) (by omega) (by omega) hown3 hgrow3; have hc03 := hv1.cell; have hf03 := hv1.frozen))
    have hgs := grownBy_setCell' w4 (w.heap.size + 1) (.slice (some ⟨g3, 0, none⟩) (pre.length + 1) cap3)
    have hbx := ((Q7.out.alloc (.cells #[.slice (some ⟨x.G, 0, none⟩) x.part.length x.c] 34)).kept hgrow3 (own_beyond Q2.out (by omega))).kept hgs (by simp; omega)
    have hfx := ((Q3.out.alloc (.cells #[.slice (some ⟨x.G, 0, none⟩) x.part.length x.c] 34)).kept hgrow3 (Q3.out.not_row (by decide) Q2.out)).kept hgs (by simp)
    have hrx := ((Q4.out.alloc (.cells #[.slice (some ⟨x.G, 0, none⟩) x.part.length x.c] 34)).kept hgrow3 (Q4.out.not_row (by decide) Q2.out)).kept hgs (by simp)
    have hVk : ∀ y, PIt.V w.heap.size y W → PIt.V w.heap.size y (w4.setCell ⟨w.heap.size + 1, 0, none⟩ (.slice (some ⟨g3, 0, none⟩) (pre.length + 1) cap3)) := fun y hy =>
      own_boxSet (own_other (World.ownsRow.alloc hy _) (Q2.out.alloc _) (by decide) hgrow3) hv1 (by decide) _
    refine ⟨hk2, ⟨hb3, hbx.trans Q7.out.symm⟩, _, hv2, ?_, hfx, hrx, ?_, Q6.out.trans hb3, hbx, Nat.le_trans (by omega) hb3.size⟩
    · simpa [partVals] using hr2
    · intro y hy
      rcases List.mem_append.1 hy with hy | hy
      · exact hVk y (Q5.out y hy)
      · obtain rfl := List.mem_singleton.1 hy
        exact hVk y HV.out
  case done =>
    rintro D xs W hD hxs ⟨sv, q1, q2, q3, q4, q5, q6, q7, q8⟩ hK
    obtain ⟨A', c', rfl, hl', hm', hR⟩ := parts_of_row q2 q5 hxs
    have hc0 := q1.cell
    have hc1 := q3.cell0
    have hc2 := q3.cell1
    have hc3 := q4.cell0
    have hc4 := q4.cell1
    have hf3 := q4.frozen 0
    have hf4 := q4.frozen 1
    gi_wp2
    gi_region
    gi_wp2
    rw [Exit.noGoto_ret]
    have hgW : W.grownBy ((W.setCell ⟨w.heap.size, 0, none⟩ (.int .i64 0)).setCell ⟨w.heap.size, 1, none⟩ (.int .i64 0)).drew (some w.heap.size) := grown_drew (grown_set (grown_set (World.grownBy.refl W (some w.heap.size)) 0 _) 1 _)
    have e0 : ((W.setCell ⟨w.heap.size, 0, none⟩ (.int .i64 0)).setCell ⟨w.heap.size, 1, none⟩ (.int .i64 0)).drew.cell? ⟨w.heap.size, 0, none⟩ = some (.int .i64 0) := by
      show ((W.setCell ⟨w.heap.size, 0, none⟩ (.int .i64 0)).setCell ⟨w.heap.size, 1, none⟩ (.int .i64 0)).cell? ⟨w.heap.size, 0, none⟩ = some (.int .i64 0)
      rw [World.cell?_setCell_other _ _ _ _ (by simp)]
      exact World.cell?_setCell_same' _ _ _ (by rw [hc3]; rfl)
    have e1 : ((W.setCell ⟨w.heap.size, 0, none⟩ (.int .i64 0)).setCell ⟨w.heap.size, 1, none⟩ (.int .i64 0)).drew.cell? ⟨w.heap.size, 1, none⟩ = some (.int .i64 0) := by
      show ((W.setCell ⟨w.heap.size, 0, none⟩ (.int .i64 0)).setCell ⟨w.heap.size, 1, none⟩ (.int .i64 0)).cell? ⟨w.heap.size, 1, none⟩ = some (.int .i64 0)
      exact World.cell?_setCell_same' _ _ _ (by rw [World.cell?_setCell_other _ _ _ _ (by simp), hc4]; rfl)
    generalize ((W.setCell ⟨w.heap.size, 0, none⟩ (.int .i64 0)).setCell ⟨w.heap.size, 1, none⟩ (.int .i64 0)).drew = W2 at *
    have hK2 : W2.heap[D]? = some (.deferred (some [])) := (hgW.block D (Array.getElem?_eq_some_iff.1 hK).1 (by simp; omega)).trans hK
    refine ⟨by simp, .inl ⟨_, _, rfl, run_takeDeferred hK2, ?_⟩⟩
    have ro : ∀ {bs sz k : Nat} {t : TypeId} {v : Value} {ys : List Value}, W.ownsRow bs t sz v k ys → 42 ≠ t → (W2.putObj D (.deferred none)).ownsRow bs t sz v k ys := fun h hne => ownsRow_putObj (h.kept hgW (.inr (q4.not_row hne h).symm)) _ hK2 rfl
    obtain ⟨A2, c2, e2, hl2, hm2, hR2⟩ := parts_of_row (ro q2 (by decide)) (fun y hy => ro (q5 y hy) (by decide)) hxs
    cases e2
    refine ⟨.tuple #[.slice A' ps.length c', .agg #[.int .i64 0, .int .i64 0]], ?_, A', c', rfl, hl', hm', hR2, q6.trans (((Below.refl w.heap.size W).grown hgW q6.size (fun k e => by cases e; exact Nat.le_refl _)).trans (below_put (n₀ := w.heap.size) (w := w3) (by omega) W2 D _ _ hD hK2))⟩
    have k0 : (W2.putObj D (.deferred none)).cell? ⟨w.heap.size, 0, none⟩ = some (.int .i64 0) := (World.cell?_of_block (a := ⟨w.heap.size, 0, none⟩) (World.putObj_heap_other (by simp; omega))).trans e0
    have k1 : (W2.putObj D (.deferred none)).cell? ⟨w.heap.size, 1, none⟩ = some (.int .i64 0) := (World.cell?_of_block (a := ⟨w.heap.size, 1, none⟩) (World.putObj_heap_other (by simp; omega))).trans e1
    generalize W2.putObj D (.deferred none) = W9 at *
    simp [results, Try.f10, go_sem, k0, k1]
end Go.Proofs.Ythpgfgnifbhjpaa
