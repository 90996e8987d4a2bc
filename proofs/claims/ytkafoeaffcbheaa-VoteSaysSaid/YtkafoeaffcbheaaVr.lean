/- vote.Right, by what a walk meets. -/
import Derived.Test.YtkafoeaffcbheaaVv
import Derived.WalkMore
namespace Go.Proofs.Ytkafoeaffcbheaa
open Go.RowKit Go.Shelf

attribute [local go_sem] Oper.semAt_some
set_option linter.unusedVariables false

/-- A node that may stand in a right tree. -/
def okNode (x : Int × Int × Fo) : Bool := decide (x.1 ≤ 8) && decide (1 ≤ x.2.1) && decide (x.2.1 ≤ 3)
def rightL (l : List (Int × Int × Fo)) : Bool := decide (l.length ≤ 64) && l.all okNode
def rightB (v : Int) (ks : Fo) : Bool := rightL (seen 1 v ks)

theorem rightL_snoc (l : List (Int × Int × Fo)) (x : Int × Int × Fo) : rightL (l ++ [x]) = (decide (l.length + 1 ≤ 64) && l.all okNode && okNode x) := by
  simp [rightL, Bool.and_assoc]
theorem rightL_front {l m : List (Int × Int × Fo)} (h : l <+: m) (hl : rightL l = false) : rightL m = false := by
  obtain ⟨r, rfl⟩ := h
  unfold rightL at hl ⊢
  simp only [Bool.and_eq_false_iff, decide_eq_false_iff_not, List.length_append, List.all_append] at hl ⊢
  rcases hl with h | h
  · exact .inl (by omega)
  · exact .inr (by simp [h])

theorem wpIn_scope_wide {n : Nat} {P : Program} {c : Code} {Q : Exit → Act → World → Prop} {a : Act} {w : World} (h : c.wpIn Fence.wide n P (Exit.noGoto Q) a w) : (Code.scope c).wpIn Fence.wide n P Q a w :=
  wpIn_wide.2 (wp_scope_straight (wpIn_wide.1 h))

set_option maxRecDepth 100000 in
set_option maxHeartbeats 2000000 in
theorem right_in (n : Nat) (hn : 3 ≤ n)
    (v : Int) (ks : Fo) (A : Option Addr) (c : Nat) (w : World) (hl : ks.len ≤ c) (hc : c ≤ maxLen) (hk : KidsAt w w.heap.size A 0 ks) :
    CallsIn Fence.wide n Try.prog 15 #[.agg #[.int .i64 v, .slice A ks.len c]] w fun e W' => e = .returned (.bool (rightB v ks)) ∧ Below w.heap.size w W' := by
  have h1 : 1 ≤ n := by omega
  have hA : NodeAt (w.alloc (.cells #[.int .i64 v, .slice A ks.len c] 24)) (w.heap.size + 1) w.heap.size 0 v ks :=
    ⟨c, A, by omega, by simp, by simp, hl, hc, hk.keep (by omega) fun b o h => by rw [World.cell?_alloc_lt w _ ⟨b, o, none⟩ h]⟩
  refine callsIn_of_wp_marks Try.func15 rfl trivial ?_ rfl
  simp only [Try.ntmps15, List.size_toArray, List.length_cons, List.length_nil, Nat.reduceAdd, Nat.reduceSub, Array.replicate_succ, Array.replicate_zero, List.push_toArray, List.append_toArray, List.nil_append, List.cons_append]
  gi_wp2
  apply wpIn_scope_wide
  gi_wp2
  apply wpIn_label
  gi_wp2_with (refine ⟨trivial, ?_⟩; gi_at_call 29; refine (walk_in Fence.wide (n - 1) trivial rfl _ _ _).mono ?_; rintro e w' ⟨rfl, rfl⟩)
  obtain ⟨w0, hw0⟩ : ∃ w0, w.alloc (.cells #[.int .i64 v, .slice A ks.len c] 24) = w0 := ⟨_, rfl⟩
  have hz : w0.heap.size = w.heap.size + 1 := by rw [← hw0]; simp
  have hBw : Below w.heap.size w w0 := by rw [← hw0]; exact (Below.refl _ _).alloc (Nat.le_refl _) _
  have hB0 : Below (w.heap.size + 1) w0 ((((w0.alloc (.cells #[.int .i64 0] 3)).alloc (.cells #[.bool true] 4)).alloc (.cells #[.pointer (some ⟨w.heap.size, 0, none⟩)] 56)).alloc (.cells #[.int .i64 1] 3)) := by
    exact ((((Below.refl _ _).alloc (by omega) _).alloc (by simp; omega) _).alloc (by simp; omega) _).alloc (by simp; omega) _
  rw [hw0] at hA ⊢
  have hb4 := boxes4 hz (.int .i64 0) (.bool true) (.pointer (some ⟨w.heap.size, 0, none⟩)) (.int .i64 1) 3 4 56 3
  refine wpIn_rangeFunc_ownF rfl h1 (gf := 36) (lb := #[.pointer (some ⟨w.heap.size + 1 + 1 + 1, 0, none⟩), .pointer (some ⟨w.heap.size + 1 + 1 + 1 + 1, 0, none⟩)]) rfl trivial (enters_of Try.func36 (by kernel_rfl) rfl)
    (walk_stops Fence.wide rfl (n - 1) trivial trivial rfl (w.heap.size + 1) ks.size (w.heap.size + 1 + 1 + 1) (w.heap.size + 1 + 1 + 1 + 1) w.heap.size 0 v ks w0 _ ?s1 ?s2 ?s3 hB0 ?s4 ?s5 hA (Nat.le_refl _)) belowK_t (belowK_b ?s6) (Below.refl _ _) (fun _ => rfl)
    (fun pre W => (W.cell? ⟨w.heap.size + 1, 0, none⟩ = some (.int .i64 pre.length) ∧ W.frozen? ⟨w.heap.size + 1, 0, none⟩ = false ∧ W.cell? ⟨w.heap.size + 1 + 1, 0, none⟩ = some (.bool true) ∧ W.frozen? ⟨w.heap.size + 1 + 1, 0, none⟩ = false ∧
        rightL (pre.map Itm.g) = true) ∧ Below (w.heap.size + 1) w0 W)
    (fun c pre W => (c = .exit 0 ∧ W.cell? ⟨w.heap.size + 1 + 1, 0, none⟩ = some (.bool false) ∧ rightL (pre.map Itm.g) = false) ∧ Below (w.heap.size + 1) w0 W)
    (OwnFrom.and (Own.from (fun s A B row hs hg hr => ⟨cell_kept hs.1 hg hr, (frozen_kept hs.1 hg hr).trans hs.2.1, cell_kept hs.2.2.1 hg hr, (frozen_kept hs.2.2.1 hg hr).trans hs.2.2.2.1, hs.2.2.2.2⟩) _) (ownFrom_below ?s7 ?s8))
    (fun c => OwnFrom.and (Own.from (fun s A B row hs hg hr => ⟨hs.1, cell_kept hs.2.1 hg hr, hs.2.2⟩) _) (ownFrom_below ?s7 ?s8))
    ?s9
    (fun x => { tmps := #[.agg #[.int .i64 v, .slice A ks.len c], .pointer (some ⟨w.heap.size, 0, none⟩), .bool false, .pointer (some ⟨w.heap.size + 1, 0, none⟩), .pointer (some ⟨w.heap.size + 1 + 1, 0, none⟩), .int .i64 x.d, .pointer (some ⟨x.b, x.off, none⟩),
        .func (.func 36) #[] #[.pointer (some ⟨w.heap.size + 1 + 1 + 1, 0, none⟩), .pointer (some ⟨w.heap.size + 1 + 1 + 1 + 1, 0, none⟩)], .int .i64 x.d, .pointer (some ⟨x.b, x.off, none⟩),
        undef, undef, undef, undef, undef, undef, undef, undef, undef, undef, undef, undef, undef, undef, undef, undef, undef, undef, undef, undef, undef, undef, undef], defers := [] }) ?assign ?body ?done ?stop
  case s1 => simp; omega
  case s2 => simp; omega
  case s3 => simp; omega
  case s4 => exact hb4.2.2.1.1
  case s5 => exact hb4.2.2.2.1
  case s6 => simp; omega
  case s7 => omega
  case s8 => simp; omega
  case s9 => exact ⟨⟨hb4.1.1, hb4.1.2, hb4.2.1.1, hb4.2.1.2, rfl⟩, hB0⟩
  case assign =>
    intro l x W K hK
    unfold Itm.enc
    gi_wp2
    exact hK
  case body =>
    rintro l pre x W ⟨⟨hn1, hn2, hn3, hn4, hr⟩, hB⟩ hlt
    obtain ⟨xc, xA, hxb, hx0, hx1, hxl, hxc, hxk⟩ := x.at_
    have hxv : W.cell? ⟨x.b, x.off, none⟩ = some (.int .i64 x.v) := (hB.cell (p := ⟨x.b, x.off, none⟩) hxb).trans hx0
    have hne : ¬ x.b = w.heap.size + 1 := by omega
    have hp : (pre.length : Int) ≤ 64 := by
      have := hr
      simp only [rightL, Bool.and_eq_true, decide_eq_true_eq, List.length_map] at this
      omega
    have hp0 : (0 : Int) ≤ pre.length := by omega
    have hg : ∀ b, okNode x.g = b → rightL ((pre ++ [x]).map Itm.g) = (decide (pre.length + 1 ≤ 64) && b) := fun b hb => by
      have := hr
      simp only [rightL, Bool.and_eq_true] at this
      rw [List.map_append, List.map_cons, List.map_nil, rightL_snoc, this.2, hb, List.length_map]
      simp
    have hok : okNode x.g = (decide (x.d ≤ 8) && decide (1 ≤ x.v) && decide (x.v ≤ 3)) := rfl
    have HG := Lib.hid hg
    have HO := Lib.hid hok
    have HR := Lib.hid hr
    clear hg hok hr hx0 hx1 hxl hxc hxk hA hB0 hw0 hk
    clear hb4
    have hlow : ¬ (w.heap.size + 1 = w.heap.size + 1 + 1) := by omega
    have bad : okNode x.g = false ∨ ¬ pre.length + 1 ≤ 64 → rightL ((pre ++ [x]).map Itm.g) = false := fun h => by
      rw [HG.out _ rfl]
      rcases h with h | h
      · rw [h]; simp
      · simp [h]
    have BAD := Lib.hid bad
    clear bad
    have hce : ∀ u, (W.setCell ⟨w.heap.size + 1, 0, none⟩ u).cell? ⟨w.heap.size + 1 + 1, 0, none⟩ = some (.bool true) := fun u =>
      (World.cell?_setCell_other W _ _ u (fun e => by injection e; omega)).trans hn3
    have CE := Lib.hid hce
    clear hce
    by_cases c1 : 8 < x.d
    · have HC : okNode x.g = false := by rw [HO.out]; simp; omega
      have HC := Lib.hid HC
      gi_wp2
      exact ⟨(KeepsOthers.setCell _ _ _).trans (KeepsOthers.setCell _ _ _), ⟨rfl, World.cell?_setCell_same' _ _ _ (by rw [CE.out]; rfl), BAD.out (.inl HC.out)⟩, (hB.setCell (p := ⟨w.heap.size + 1, 0, none⟩) (Nat.le_refl _) _).setCell (p := ⟨w.heap.size + 1 + 1, 0, none⟩) (by simp) _⟩
    by_cases c2 : 64 < (pre.length : Int) + 1
    · have HC : Hid (¬ pre.length + 1 ≤ 64) := by
        have : ¬ pre.length + 1 ≤ 64 := by omega
        exact this
      gi_wp2
      exact ⟨(KeepsOthers.setCell _ _ _).trans (KeepsOthers.setCell _ _ _), ⟨rfl, World.cell?_setCell_same' _ _ _ (by rw [CE.out]; rfl), BAD.out (.inr HC.out)⟩, (hB.setCell (p := ⟨w.heap.size + 1, 0, none⟩) (Nat.le_refl _) _).setCell (p := ⟨w.heap.size + 1 + 1, 0, none⟩) (by simp) _⟩
    by_cases c3 : x.v < 1
    · have HC : okNode x.g = false := by rw [HO.out]; simp; omega
      have HC := Lib.hid HC
      gi_wp2
      exact ⟨(KeepsOthers.setCell _ _ _).trans (KeepsOthers.setCell _ _ _), ⟨rfl, World.cell?_setCell_same' _ _ _ (by rw [CE.out]; rfl), BAD.out (.inl HC.out)⟩, (hB.setCell (p := ⟨w.heap.size + 1, 0, none⟩) (Nat.le_refl _) _).setCell (p := ⟨w.heap.size + 1 + 1, 0, none⟩) (by simp) _⟩
    by_cases c4 : 3 < x.v
    · have HC : okNode x.g = false := by rw [HO.out]; simp; omega
      have HC := Lib.hid HC
      gi_wp2
      exact ⟨(KeepsOthers.setCell _ _ _).trans (KeepsOthers.setCell _ _ _), ⟨rfl, World.cell?_setCell_same' _ _ _ (by rw [CE.out]; rfl), BAD.out (.inl HC.out)⟩, (hB.setCell (p := ⟨w.heap.size + 1, 0, none⟩) (Nat.le_refl _) _).setCell (p := ⟨w.heap.size + 1 + 1, 0, none⟩) (by simp) _⟩
    have HC : rightL ((pre ++ [x]).map Itm.g) = true := by
      rw [HG.out true (by rw [HO.out]; simp; omega)]
      simp
      omega
    have HC := Lib.hid HC
    have hln : (((pre ++ [x]).length : Nat) : Int) = (pre.length : Int) + 1 := by simp
    have HL := Lib.hid hln
    clear hln
    gi_wp2
    exact ⟨KeepsOthers.setCell _ _ _, (Below.refl _ _).setCell (p := ⟨w.heap.size + 1, 0, none⟩) (Nat.le_refl _) _,
      ⟨by rw [HL.out]; exact World.cell?_setCell_same' _ _ _ (by rw [hn1]; rfl), by rw [World.frozen?_setCell]; exact hn2, CE.out _, by rw [World.frozen?_setCell]; exact hn4, HC.out⟩,
      hB.setCell (p := ⟨w.heap.size + 1, 0, none⟩) (Nat.le_refl _) _⟩
  case done =>
    rintro D ys W hD hys ⟨⟨hn1, hn2, hn3, hn4, hr⟩, hB⟩ hK
    rw [hys] at hr
    have HR : Hid (rightB v ks = true) := hr
    clear hr hA hB0 hw0 hk hb4
    gi_wp2
    rw [Exit.noGoto_ret]
    refine ⟨by simp, .inl ⟨_, _, rfl, run_takeDeferred hK, ?_⟩⟩
    exact ⟨_, results_tmp rfl _ _ _, by rw [HR.out]; rfl, (hBw.trans (hB.mono (by omega))).trans (belowK_b (w := w) (Nat.le_refl _) W D _ _ (by simp at hD; omega) hK rfl rfl)⟩
  case stop =>
    rintro D c pre W hD hpre ⟨⟨rfl, hc, hr⟩, hB⟩ hK
    have HR : Hid (rightB v ks = false) := rightL_front hpre hr
    clear hr hA hB0 hw0 hk hb4
    gi_wp2
    rw [Exit.noGoto_ret]
    refine ⟨by simp, .inl ⟨_, _, rfl, run_takeDeferred hK, ?_⟩⟩
    exact ⟨_, results_tmp rfl _ _ _, by rw [HR.out]; rfl, (hBw.trans (hB.mono (by omega))).trans (belowK_b (w := w) (Nat.le_refl _) W D _ _ (by simp at hD; omega) hK rfl rfl)⟩

theorem right_any (v : Int) (ks : Fo) (A : Option Addr) (c : Nat) (w : World) (hl : ks.len ≤ c) (hc : c ≤ maxLen) (hk : KidsAt w w.heap.size A 0 ks) :
    Calls Try.prog 15 #[.agg #[.int .i64 v, .slice A ks.len c]] w fun e W' => e = .returned (.bool (rightB v ks)) ∧ Below w.heap.size w W' :=
  callsIn_wide.1 (right_in 3 (Nat.le_refl _) v ks A c w hl hc hk)
end Go.Proofs.Ytkafoeaffcbheaa
