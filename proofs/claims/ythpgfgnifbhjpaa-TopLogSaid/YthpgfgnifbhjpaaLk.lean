/- wal.Read. -/
import Derived.Test.YthpgfgnifbhjpaaLj
namespace Go.Proofs.Ythpgfgnifbhjpaa
open Go.RowKit Go.Shelf

attribute [local go_sem] Oper.semAt_some
set_option linter.unusedVariables false

set_option maxHeartbeats 1000000 in
theorem walwalk_in (n : Nat) (A : Option Addr) (l c : Nat) (w : World) :
    CallsIn Fence.wide n Try.prog 27 #[.slice A l c] w fun e w' => e = .returned (.func (.func 32) #[] #[.pointer (some ⟨w.heap.size, 0, none⟩)]) ∧ w.alloc (.cells #[.slice A l c] 34) = w' := by
  refine callsIn_of_wp Try.func27 rfl trivial ?_ rfl
  simp only [Try.ntmps27, List.size_toArray, List.length_cons, List.length_nil, Nat.reduceAdd, Nat.reduceSub, Array.replicate_succ, Array.replicate_zero, List.push_toArray, List.append_toArray, List.nil_append, List.cons_append]
  gi_wp2
  go_ret
  exact ⟨rfl, rfl⟩

theorem cell_two_new (w : World) (u v : Value) (t : TypeId) : ∀ j y, [u, v][j]? = some y → (w.alloc (.cells #[u, v] t)).cell? ((⟨w.heap.size, 0, none⟩ : Addr).add j) = some y := fun j y hj => by
  match j with
  | 0 => simp at hj; subst hj; simp [Addr.add]
  | 1 => simp at hj; subst hj; simp [Addr.add]
  | j + 2 => simp at hj
theorem own_boxSet {W : World} {B base size k : Nat} {t e : TypeId} {v v' : Value} {xs : List Value} (h : W.ownsRow base e size v k xs) (hb : Boxed W B t v') (hte : t ≠ e) (u : Value) : (W.setCell ⟨B, 0, none⟩ u).ownsRow base e size v k xs :=
  h.kept (grownBy_setCell' W B u) (.inr (hb.not_row hte h).symm)
theorem keepsOthers_new (W : World) (o : Obj) : KeepsOthers W (W.alloc o) := KeepsOthers.alloc W o

theorem walk_seq (n n₀ Bb : Nat) (A : Option Addr) (c : Nat) (b : List Int) (rs : List (Int × List Int)) (tail : List Int) (w : World)
    (hb : b = catF rs ++ tail) (hrs : ∀ r ∈ rs, RecOk r) (ht : Tail tail) (hlen : b.length ≤ 100000) (hlc : b.length ≤ c) (hcm : c ≤ maxLen) (hBb : Bb < w.heap.size) (hc : w.cell? ⟨Bb, 0, none⟩ = some (.slice A b.length c))
    (hA : BytesP w (· < n₀) A b) (hn₀ : n₀ ≤ w.heap.size) :
    SeqV Fence.wide n Try.prog 32 #[.pointer (some ⟨Bb, 0, none⟩)] RIt.enc (RIt.V n₀) (KB n₀ Bb) (fun xs => xs.map RIt.g = ends 0 rs) rs.length w := fun l J W hW hJ hY h0 =>
  wal_walk1 n l n₀ Bb A c b rs tail W J hb hrs ht hlen hlc hcm (Nat.lt_of_lt_of_le hBb hW.size) ((hW.cell (p := ⟨Bb, 0, none⟩) hBb).trans hc) (hA.keep fun b' hb' hlt => ⟨hb', hW.block b' hlt⟩) (Nat.le_trans hn₀ hW.size) hJ hY h0

set_option maxRecDepth 100000 in
set_option maxHeartbeats 4000000 in
theorem read_in (n : Nat) (hn : 3 ≤ n) (A : Option Addr) (c : Nat) (b : List Int) (rs : List (Int × List Int)) (tail : List Int) (w : World)
    (hb : b = catF rs ++ tail) (hrs : ∀ r ∈ rs, RecOk r) (hrl : rs.length ≤ 100) (ht : Tail tail) (hlen : b.length ≤ 100000) (hlc : b.length ≤ c) (hcm : c ≤ maxLen) (hA : BytesAt w A b) :
    CallsIn Fence.wide n Try.prog 15 #[.slice A b.length c] w fun e W' => ∃ A' c', e = .returned (.tuple #[.slice A' rs.length c', .int .i64 (catF rs).length]) ∧ rs.length ≤ c' ∧ c' ≤ maxLen ∧ RecsP W' (fun b => w.heap.size ≤ b) A' rs ∧ Below w.heap.size w W' := by
  have h1 : 1 ≤ n := by omega
  have HBE := Lib.hid hb; have HRS := Lib.hid hrs; have HTL := Lib.hid ht
  clear hb hrs ht
  obtain ⟨i0, hi, hz0, hz1, hz2⟩ := info_parts info_rec
  have hA0 : BytesP w (· < w.heap.size) A b := fun hp => by
    obtain ⟨b', off, e, _, hcc⟩ := hA hp
    exact ⟨b', off, e, World.block_lt_of_cell? w _ (hcc 0 _ (List.getElem?_eq_getElem hp)), hcc⟩
  refine callsIn_of_wp_marks Try.func15 rfl trivial ?_ rfl
  simp only [Try.ntmps15, List.size_toArray, List.length_cons, List.length_nil, Nat.reduceAdd, Nat.reduceSub, Array.replicate_succ, Array.replicate_zero, List.push_toArray, List.append_toArray, List.nil_append, List.cons_append]
  gi_wp2_with (refine ⟨trivial, ?_⟩; gi_at_call 27; refine (walwalk_in (n - 1) _ _ _ _).mono ?_; rintro e w' ⟨rfl, rfl⟩)
  have bO := Boxed.new w 30 (.slice none 0 0)
  have bN := Boxed.new (w.alloc (.cells #[.slice none 0 0] 30)) 3 (.int .i64 0)
  have bB := Boxed.new ((w.alloc (.cells #[.slice none 0 0] 30)).alloc (.cells #[.int .i64 0] 3)) 34 (.slice A b.length c)
  rw [World.size_alloc] at bN
  rw [World.size_alloc, World.size_alloc] at bB
  obtain ⟨w3, hw3⟩ : ∃ w3, ((w.alloc (.cells #[.slice none 0 0] 30)).alloc (.cells #[.int .i64 0] 3)).alloc (.cells #[.slice A b.length c] 34) = w3 := ⟨_, rfl⟩
  have hB0 : Below w.heap.size w w3 := by rw [← hw3]; exact below_alloc (below_alloc (below_alloc (Below.refl _ _) _) _) _
  have z3 : w3.heap.size = w.heap.size + 1 + 1 + 1 := by rw [← hw3]; simp
  have o3 : Boxed w3 w.heap.size 30 (.slice none 0 0) := by rw [← hw3]; exact (bO.alloc _).alloc _
  have n3 : Boxed w3 (w.heap.size + 1) 3 (.int .i64 0) := by rw [← hw3]; exact bN.alloc _
  have b3 : Boxed w3 (w.heap.size + 1 + 1) 34 (.slice A b.length c) := by rw [← hw3]; exact bB
  have c3 : w3.cell? ⟨w.heap.size + 1 + 1, 0, none⟩ = some (.slice A b.length c) := by rw [← hw3]; exact bB.cell
  rw [hw3]
  clear bO bN bB hw3 hi hz0 hz1 hz2
  refine rangeV rfl h1 (gf := 32) (lb := #[.pointer (some ⟨w.heap.size + 1 + 1, 0, none⟩)]) rfl trivial (enters_of Try.func32 (by kernel_rfl) rfl)
    (walk_seq (n - 1) w.heap.size (w.heap.size + 1 + 1) A c b rs tail w3 HBE.out HRS.out HTL.out hlen hlc hcm (by omega) c3 (hA0.keep fun b' hb' hlt => ⟨hb', hB0.block b' hlt⟩) (by omega))
    (fun h k => KB.trans h k) (fun W l o o' hl h => ⟨below_put (w := w3) (by omega) W l o o' hl h, World.putObj_heap_other (by omega)⟩) (Below.refl _ _) (fun _ => rfl)
    (fun pre W => ∃ sv, Boxed W w.heap.size 30 sv ∧ W.ownsRow w.heap.size 39 2 sv pre.length (recVals pre) ∧ Boxed W (w.heap.size + 1) 3 (.int .i64 (lastF 0 pre)) ∧ (∀ x ∈ pre, RIt.V w.heap.size x W) ∧ Below w.heap.size w W ∧ Boxed W (w.heap.size + 1 + 1) 34 (.slice A b.length c))
    (fun s W W' ht ⟨sv, q1, q2, q3, q4, q5, q6⟩ => ⟨sv, boxed_turn q1 ht, own_turn q2 ht, boxed_turn q3 ht, fun x hx => own_turn (q4 x hx) ht, below_turn q5 (Nat.le_refl _) (by omega) ht, boxed_turn q6 ht⟩)
    (fun x W W' ht h => own_turn h ht)
    ⟨_, o3, World.ownsRow_nil _ _ _ _, n3, by simp, hB0, b3⟩
    (fun x a' W => ∃ r, a' = { tmps := #[.slice A b.length c, undef, .slice none 0 0, .int .i64 0, .pointer (some ⟨w.heap.size, 0, none⟩), .pointer (some ⟨w.heap.size + 1, 0, none⟩), .int .i64 x.e, .pointer (some ⟨r, 0, none⟩), .slice A b.length c,
        .func (.func 32) #[] #[.pointer (some ⟨w.heap.size + 1 + 1, 0, none⟩)], .int .i64 x.e, .agg #[.int .i64 x.k, .slice x.A x.body.length x.c], undef, undef, undef, undef, undef, undef, undef], defers := [] } ∧
      W.cell? ⟨r, 0, none⟩ = some (.int .i64 x.k) ∧ W.cell? ⟨r, 1, none⟩ = some (.slice x.A x.body.length x.c))
    (fun x a' W W' ht ⟨r, q1, q2, q3⟩ => ⟨r, q1, cell_turn q2 ht, cell_turn q3 ht⟩)
    ?assign ?body ?done
  case assign =>
    rintro l pre x W K ⟨sv, q1, q2, q3, q4, q5, q6⟩ hv hK
    unfold RIt.enc
    gi_wp2
    refine hK _ _ (KeepsOthers.alloc _ _) ⟨below_alloc (Below.refl _ W) _ |>.mono q5.size, (Below.heap_alloc _ _ _ q6.lt)⟩ ⟨sv, q1.alloc _, q2.alloc _, q3.alloc _, fun y hy => (q4 y hy).alloc _, q5.alloc (q5.size) _, q6.alloc _⟩ (hv.alloc _) ⟨_, rfl, by simp, by simp⟩
  case body =>
    rintro l pre x a' W ⟨sv, q1, q2, q3, q4, q5, q6⟩ hv ⟨r, rfl, k0, k1⟩ hlt
    have hc0 := q1.cell
    have hf0 := q1.frozen
    have hc1 := q3.cell
    have hf1 := q3.frozen
    obtain ⟨i0, hi, hz0, hz1, hz2⟩ := info_parts info_rec
    have hq5 := q5.size
    have hpl : pre.length < 100 := by omega
    have Q1 := Lib.hid q1; have Q2 := Lib.hid q2; have Q3 := Lib.hid q3; have Q4 := Lib.hid q4; have Q5 := Lib.hid q5; have Q6 := Lib.hid q6; have HV := Lib.hid hv
    clear q1 q2 q3 q4 q5 q6 hv
    gi_wp2_with (gi_at_builtin; go_must (refine wpListIn_append_own _ rfl _ _ 30 rfl w.heap.size 39 i0 _ 2 32 Try.underlying30 hi hz0 hz1 hz2 rfl (by decide) _ _ _ rfl (Q2.out.alloc _) ⟨W.heap.size, 0, none⟩ 1 1 [.int .i64 x.k, .slice x.A x.body.length x.c] rfl rfl (cell_two_new _ _ _ _) (by simp [Value.oneCell']) (by unfold maxLen; omega) (by omega) (by simp; omega) ?_; intro v3 w4 hown3 hgrow3 _; obtain ⟨g3, cap3, rfl⟩ := ownsRow_succ hown3; obtain ⟨hv1, hv2, hr2, hk2, hb3⟩ := Boxed.appended Q1.out (by decide) Q2.out (by omega) (Nat.le_refl _) hown3 hgrow3; have hc03 := hv1.cell; have hf03 := hv1.frozen; have hnb3 : Boxed w4 (w.heap.size + 1) 3 (.int .i64 (lastF 0 pre)) := (Q3.out.alloc _).kept hgrow3 (Q3.out.not_row (by decide) Q2.out); have hc13 := hnb3.cell; have hf13 := hnb3.frozen))
    have hnb4 := hnb3.kept (grownBy_setCell' w4 w.heap.size (.slice (some ⟨g3, 0, none⟩) (pre.length + 1) cap3)) (by simp)
    have hsb3 : Boxed w4 (w.heap.size + 1 + 1) 34 (.slice A b.length c) := (Q6.out.alloc _).kept hgrow3 (Q6.out.not_row (by decide) Q2.out)
    have hsb4 := hsb3.kept (grownBy_setCell' w4 w.heap.size (.slice (some ⟨g3, 0, none⟩) (pre.length + 1) cap3)) (by simp; omega)
    have hsb5 := hsb4.kept (grownBy_setCell' _ (w.heap.size + 1) (.int .i64 x.e)) (by simp)
    have hVk : ∀ y, RIt.V w.heap.size y W → RIt.V w.heap.size y ((w4.setCell ⟨w.heap.size, 0, none⟩ (.slice (some ⟨g3, 0, none⟩) (pre.length + 1) cap3)).setCell ⟨w.heap.size + 1, 0, none⟩ (.int .i64 x.e)) := fun y hy =>
      own_boxSet (own_boxSet (own_other (World.ownsRow.alloc hy _) (Q2.out.alloc _) (by decide) hgrow3) hv1 (by decide) _) hnb4 (by decide) _
    refine ⟨hk2.trans (KeepsOthers.setCell _ _ _), ⟨hb3.setCell (p := ⟨w.heap.size + 1, 0, none⟩) (by simp) _, hsb5.trans Q6.out.symm⟩, _, hv2.kept (grownBy_setCell' _ _ _) (by simp), ?_, ?_, ?_, (Q5.out.trans hb3).setCell (p := ⟨w.heap.size + 1, 0, none⟩) (by simp) _, hsb5⟩
    · have h9 := own_boxSet hr2 hnb4 (by decide) (.int .i64 x.e)
      rw [recVals_append]
      simpa [recVals] using h9
    · rw [lastF_snoc]
      exact hnb4.set _
    · intro y hy
      rcases List.mem_append.1 hy with hy | hy
      · exact hVk y (Q4.out y hy)
      · obtain rfl := List.mem_singleton.1 hy
        exact hVk y HV.out
  case done =>
    rintro D xs W hD hxs ⟨sv, q1, q2, q3, q4, q5, q6⟩ hK
    obtain ⟨A', c', rfl, hl', hm', hR⟩ := recs_of_row q2 q4 hxs
    have hlast := lastF_ends _ _ _ hxs
    rw [hlast, Int.zero_add] at q3
    have hc0 := q1.cell
    have hc1 := q3.cell
    gi_wp2
    refine wpIn_wide.2 ?_
    go_quiet (fail)
    gi_wp2
    have ro : ∀ {bs sz k : Nat} {t : TypeId} {v : Value} {ys : List Value}, W.ownsRow bs t sz v k ys → ((W.drewN nq).putObj D (.deferred none)).ownsRow bs t sz v k ys := fun h => ownsRow_putObj (W := W.drewN nq) h _ hK rfl
    refine ⟨by simp, .inl ⟨_, _, rfl, run_takeDeferred hK, ?_⟩⟩
    obtain ⟨A2, c2, e2, hl2, hm2, hR2⟩ := recs_of_row (ro q2) (fun y hy => ro (q4 y hy)) hxs
    cases e2
    exact ⟨_, results_tmp2 rfl _ _ _, A', c', rfl, hl', hm', hR2, (Below.trans (b := W.drewN nq) ⟨q5.os, q5.tape, q5.output, q5.size, q5.block⟩ (below_put (n₀ := w.heap.size) (w := w3) (by omega) (W.drewN nq) D _ _ hD hK))⟩
end Go.Proofs.Ythpgfgnifbhjpaa
