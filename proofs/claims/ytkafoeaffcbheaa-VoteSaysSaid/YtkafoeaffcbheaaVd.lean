/- vote.Told, at every tree: the numbers of those that are told. -/
import Derived.Test.YtkafoeaffcbheaaVo
namespace Go.Proofs.Ytkafoeaffcbheaa
open Go.RowKit Go.Shelf

attribute [local go_sem] Oper.semAt_some
set_option linter.unusedVariables false

theorem keepsOthers_of_below {W w2 : World} (h : Below W.heap.size W w2) : KeepsOthers W w2 :=
  KeepsOthers.of_grownBy (grown_of_below h none) fun j o e => by cases e

/-- 'out = append(out, x)' where out lies in a box, its row beyond 'base'. -/
theorem boxed_appended {W w1 : World} {n₀ base B : Nat} {t e : TypeId} {size : Nat} {v v' : Value} {k m : Nat} {xs ys : List Value} {tmp : Obj}
    (hv : Boxed W B t v) (hte : t ≠ e) (hrow : W.ownsRow base e size v k xs) (hn₀ : n₀ ≤ W.heap.size) (hnb : n₀ ≤ base) (hB : n₀ ≤ B)
    (hown' : w1.ownsRow base e size v' m ys) (hgrow : (W.alloc tmp).grownBy w1 v.ownBlock) :
    Boxed w1 B t v ∧ Boxed (w1.setCell ⟨B, 0, none⟩ v') B t v' ∧ (w1.setCell ⟨B, 0, none⟩ v').ownsRow base e size v' m ys ∧ KeepsOthers W (w1.setCell ⟨B, 0, none⟩ v') ∧ Below n₀ W (w1.setCell ⟨B, 0, none⟩ v') := by
  have hv1 : Boxed w1 B t v := (hv.alloc tmp).kept hgrow (hv.not_row hte hrow)
  refine ⟨hv1, hv1.set v', hown'.kept (grownBy_setCell' w1 B v') (.inr (hv1.not_row hte hown').symm), ?_, ?_⟩
  · refine ((KeepsOthers.alloc W tmp).trans (KeepsOthers.of_grownBy hgrow fun j o ej hj => ?_)).trans (KeepsOthers.setCell _ _ _)
    rcases (hrow.alloc tmp).2 with ⟨rfl, _⟩ | ⟨g, cap, cur, rfl, _, hgb, _⟩
    · simp [Value.ownBlock] at ej
    · obtain rfl : g = j := by simpa [Value.ownBlock] using ej
      rw [hgb] at hj; cases hj; rfl
  · refine (((Below.refl n₀ W).alloc hn₀ tmp).grown hgrow (by simp; omega) fun j ej => ?_).setCell (p := ⟨B, 0, none⟩) hB v'
    rcases hrow.2 with ⟨rfl, _⟩ | ⟨g, cap, cur, rfl, hb, _, _⟩
    · simp [Value.ownBlock] at ej
    · obtain rfl : g = j := by simpa [Value.ownBlock] using ej
      exact Nat.le_trans hnb hb

theorem own_mono {W : World} {base base' : Nat} {e : TypeId} {size : Nat} {v : Value} {k : Nat} {xs : List Value} (h : W.ownsRow base e size v k xs) (hb : base' ≤ base) : W.ownsRow base' e size v k xs :=
  ⟨h.1, h.2.imp id fun ⟨g, cap, cur, e1, hbb, r⟩ => ⟨g, cap, cur, e1, Nat.le_trans hb hbb, r⟩⟩
theorem ownBlock_ne_none (v : Value) : v.ownBlock = none ∨ v.ownBlock ≠ none := by
  cases v.ownBlock <;> simp
/-- A row beyond a block is not that block. -/
theorem own_ne {W : World} {base : Nat} {e : TypeId} {size : Nat} {v : Value} {k B : Nat} {xs : List Value} (h : W.ownsRow base e size v k xs) (hB : B < base) : v.ownBlock ≠ some B := fun e' => by
  have := (h.lt B e').1
  omega

set_option maxRecDepth 100000 in
set_option maxHeartbeats 1000000 in
theorem told_no {v : Int} {ks : Fo} (h : rightB v ks = false) {A : Option Addr} {c : Nat} (w : World) (hl : ks.len ≤ c) (hc : c ≤ maxLen) (hk : KidsAt w w.heap.size A 0 ks) :
    Calls Try.prog 11 #[.agg #[.int .i64 v, .slice A ks.len c]] w fun e W' => e = .returned (.tuple #[.slice none 0 0, .int .i64 1]) ∧ Below w.heap.size w W' := by
  obtain ⟨w0, hw0⟩ : ∃ w0, w.alloc (.cells #[.int .i64 v, .slice A ks.len c] 24) = w0 := ⟨_, rfl⟩
  have hz : w0.heap.size = w.heap.size + 1 := by rw [← hw0]; simp
  have hbox0 : w0.cell? ⟨w.heap.size, 0, none⟩ = some (.int .i64 v) := by rw [← hw0]; simp
  have hbox : w0.cell? ⟨w.heap.size, 1, none⟩ = some (.slice A ks.len c) := by rw [← hw0]; simp
  have hBw : Below w.heap.size w w0 := by rw [← hw0]; exact (Below.refl _ _).alloc (Nat.le_refl _) _
  have hr := right_at h hl hc (hk.keep (w' := w0) hBw.size fun b o hb => hBw.cell (p := ⟨b, o, none⟩) hb)
  have HR := Lib.hid hr
  clear hr h hk
  go_enter Try.func11, Try.ntmps11
  go_wp2_with (go_at_call 15; refine HR.out.mono ?_; clear HR; rintro e w1 ⟨rfl, hb1⟩)
  go_ret2
  exact ⟨rfl, hBw.trans (hb1.mono hBw.size)⟩

set_option maxRecDepth 100000 in
set_option maxHeartbeats 2000000 in
theorem told_in (n : Nat) (hn : 3 ≤ n) {v : Int} {ks : Fo} (h : rightB v ks = true) {A : Option Addr} {c : Nat} (w : World) (hl : ks.len ≤ c) (hc : c ≤ maxLen) (hk : KidsAt w w.heap.size A 0 ks) :
    CallsIn Fence.wide n Try.prog 11 #[.agg #[.int .i64 v, .slice A ks.len c]] w fun e W' => ∃ sv, e = .returned (.tuple #[sv, .int .i64 0]) ∧
      W'.ownsRow w.heap.size 3 1 sv (toldL 0 (seen 1 v ks)).length ((toldL 0 (seen 1 v ks)).map (Value.int .i64)) ∧ Below w.heap.size w W' := by
  have h1 : 1 ≤ n := by omega
  have hsz := right_size h
  have hsl := seen_len h
  obtain ⟨i0, hi, hz0, hz1, hz2⟩ := info_parts info_int
  obtain ⟨w0, hw0⟩ : ∃ w0, w.alloc (.cells #[.int .i64 v, .slice A ks.len c] 24) = w0 := ⟨_, rfl⟩
  have hz : w0.heap.size = w.heap.size + 1 := by rw [← hw0]; simp
  have hbox0 : w0.cell? ⟨w.heap.size, 0, none⟩ = some (.int .i64 v) := by rw [← hw0]; simp
  have hbox : w0.cell? ⟨w.heap.size, 1, none⟩ = some (.slice A ks.len c) := by rw [← hw0]; simp
  have hBw : Below w.heap.size w w0 := by rw [← hw0]; exact (Below.refl _ _).alloc (Nat.le_refl _) _
  have hk0 : KidsAt w0 w0.heap.size A 0 ks := hk.keep (w' := w0) hBw.size fun b o hb => hBw.cell (p := ⟨b, o, none⟩) hb
  have hr := right_at h hl hc hk0
  have hnode : NodeAt w0 w0.heap.size w.heap.size 0 v ks := ⟨c, A, by omega, hbox0, hbox, hl, hc, hk0⟩
  have HR := Lib.hid hr
  have HN := Lib.hid hnode
  clear hr h hk hk0 hnode
  refine callsIn_of_wp_marks Try.func11 rfl trivial ?_ rfl
  simp only [Try.ntmps11, List.size_toArray, List.length_cons, List.length_nil, Nat.reduceAdd, Nat.reduceSub, Array.replicate_succ, Array.replicate_zero, List.push_toArray, List.append_toArray, List.nil_append, List.cons_append]
  gi_wp2_with (first
    | (refine ⟨trivial, ?_⟩; gi_at_call 15; refine (callsIn_wide.2 HR.out).mono ?_; clear HR; rintro e w1 ⟨rfl, hb1⟩)
    | (refine ⟨trivial, ?_⟩; gi_at_call 29; refine (walk_in Fence.wide (n - 1) trivial rfl _ _ _).mono ?_; rintro e w' ⟨rfl, rfl⟩))
  have hA : NodeAt w1 w1.heap.size w.heap.size 0 v ks := HN.out.keep hb1.size fun b o hb => hb1.cell (p := ⟨b, o, none⟩) hb
  have hBw1 : Below w.heap.size w w1 := hBw.trans (hb1.mono hBw.size)
  clear HN hbox0 hbox hb1 hBw hz hw0
  have bO := Boxed.new w1 29 (.slice none 0 0)
  have bN := Boxed.new (w1.alloc (.cells #[.slice none 0 0] 29)) 3 (.int .i64 0)
  rw [World.size_alloc] at bN
  have hb4 := boxes4 (W := w1) rfl (.slice none 0 0) (.int .i64 0) (.pointer (some ⟨w.heap.size, 0, none⟩)) (.int .i64 1) 29 3 56 3
  have hB0 : Below w1.heap.size w1 ((((w1.alloc (.cells #[.slice none 0 0] 29)).alloc (.cells #[.int .i64 0] 3)).alloc (.cells #[.pointer (some ⟨w.heap.size, 0, none⟩)] 56)).alloc (.cells #[.int .i64 1] 3)) :=
    below_alloc (below_alloc (below_alloc (below_alloc (Below.refl _ _) _) _) _) _
  have hwle : w.heap.size ≤ w1.heap.size := hBw1.size
  refine wpIn_rangeFunc_ownF rfl h1 (gf := 36) (lb := #[.pointer (some ⟨w1.heap.size + 1 + 1, 0, none⟩), .pointer (some ⟨w1.heap.size + 1 + 1 + 1, 0, none⟩)]) rfl trivial (enters_of Try.func36 (by kernel_rfl) rfl)
    (walk_stops Fence.wide rfl (n - 1) trivial trivial rfl w1.heap.size ks.size (w1.heap.size + 1 + 1) (w1.heap.size + 1 + 1 + 1) w.heap.size 0 v ks w1 _ ?s1 ?s2 ?s3 hB0 hb4.2.2.1.1 hb4.2.2.2.1 hA (Nat.le_refl _)) belowK_t (belowK_b ?s6) (Below.refl _ _) (fun _ => rfl)
    (fun pre W => ((∃ sv, Boxed W w1.heap.size 29 sv ∧ W.ownsRow (w1.heap.size + 1 + 1) 3 1 sv (toldL 0 (pre.map Itm.g)).length ((toldL 0 (pre.map Itm.g)).map (Value.int .i64)) ∧ True) ∧
        Boxed W (w1.heap.size + 1) 3 (.int .i64 pre.length)) ∧ Below w1.heap.size w1 W)
    (fun _ _ _ => False)
    (OwnFrom.and (OwnFrom.and (Own.from (holdsRow_own (w1.heap.size + 1 + 1) w1.heap.size 29 3 1 (fun pre : List (Itm w1 w1.heap.size ks.size) => (toldL 0 (pre.map Itm.g)).length) (fun pre => (toldL 0 (pre.map Itm.g)).map (Value.int .i64)) (fun _ _ => True)) _)
      (Own.from (fun s X Y row hs hg hrow => hs.kept hg (fun e' => by
        obtain ⟨o, ho, hcc⟩ := hrow _ e'.symm
        rw [show X.heap[w1.heap.size + 1]? = _ from hs] at ho; cases ho; cases hcc)) _)) (ownFrom_below (Nat.le_refl _) ?s8))
    (fun _ _ _ _ _ hs _ _ => hs)
    ?s9
    (fun x => { tmps := #[.agg #[.int .i64 v, .slice A ks.len c], .pointer (some ⟨w.heap.size, 0, none⟩), .slice none 0 0, .int .i64 0, .pointer (some ⟨w1.heap.size, 0, none⟩), .pointer (some ⟨w1.heap.size + 1, 0, none⟩), .int .i64 x.d, .pointer (some ⟨x.b, x.off, none⟩),
        .agg #[.int .i64 v, .slice A ks.len c], .bool true, .bool false,
        .func (.func 36) #[] #[.pointer (some ⟨w1.heap.size + 1 + 1, 0, none⟩), .pointer (some ⟨w1.heap.size + 1 + 1 + 1, 0, none⟩)], .int .i64 x.d, .pointer (some ⟨x.b, x.off, none⟩),
        undef, undef, undef, undef, undef, undef, undef, undef, undef, undef, undef, undef, undef, undef], defers := [] }) ?assign ?body ?done ?stop
  case s1 => simp; try omega
  case s2 => simp; try omega
  case s3 => simp; omega
  case s6 => simp; omega
  case s8 => simp; omega
  case s9 => exact ⟨⟨⟨_, ((bO.alloc _).alloc _).alloc _, World.ownsRow_nil _ _ _ _, trivial⟩, (bN.alloc _).alloc _⟩, hB0⟩
  case assign =>
    intro l x W K hK
    unfold Itm.enc
    gi_wp2
    exact hK
  case body =>
    rintro l pre x W ⟨⟨⟨sv, hsv, hrow, -⟩, hnb⟩, hB⟩ hlt
    have hc0 := hsv.cell
    have hf0 := hsv.frozen
    have hc1 := hnb.cell
    have hf1 := hnb.frozen
    have hxn := x.at_.keep hB.size fun b o hb => hB.cell (p := ⟨b, o, none⟩) hb
    have hys := says_any (x.ks.size + 1) x.v x.ks x.b x.off W (by omega) (by have := x.sz; omega) hxn
    have HY := Lib.hid hys
    clear hys hxn hA hB0 hb4 bO bN
    have hp : pre.length < 64 := by omega
    have hpl : (toldL 0 (pre.map Itm.g)).length < 64 := by have := toldL_len (pre.map Itm.g) 0; rw [List.length_map] at this; omega
    have hnl := hnb.lt
    have hT : ∀ bb, told1 x.g = bb → toldL 0 ((pre ++ [x]).map Itm.g) = toldL 0 (pre.map Itm.g) ++ (if bb = true then [(pre.length : Int)] else []) := fun bb hbb => by
      rw [List.map_append, List.map_cons, List.map_nil, toldL_snoc, hbb, List.length_map, Nat.zero_add]
    have HT := Lib.hid hT
    have HL : Hid ((((pre ++ [x]).length : Nat) : Int) = (pre.length : Int) + 1) := by
      have : (((pre ++ [x]).length : Nat) : Int) = (pre.length : Int) + 1 := by simp
      exact this
    clear hT
    by_cases c1 : 1 < x.d
    · have HD : Hid (told1 x.g = (saysT x.v x.ks != 2)) := by
        have : told1 x.g = (saysT x.v x.ks != 2) := by simp [told1, Itm.g, c1]
        exact this
      gi_wp2_with (first
        | (refine ⟨trivial, fun hh => absurd hh (by decide), ?_⟩; gi_at_call 30; refine (CallsIn.inRound l (callsIn_wide.2 HY.out)).mono ?_; clear HY; rintro e w2 ⟨rfl, hb2⟩; have hsv2 : Boxed w2 w1.heap.size 29 sv := hsv.kept (grown_of_below hb2 none) (by simp); have hnb2 : Boxed w2 (w1.heap.size + 1) 3 (.int .i64 pre.length) := hnb.kept (grown_of_below hb2 none) (by simp); have hrow2 := hrow.kept (grown_of_below hb2 none) (ownBlock_ne_none sv); have hc02 := hsv2.cell; have hf02 := hsv2.frozen; have hc12 := hnb2.cell; have hf12 := hnb2.frozen)
        | (gi_at_builtin; go_must (refine wpListIn_append_own _ rfl _ _ 29 rfl (w1.heap.size + 1 + 1) 3 i0 (.int .i64 0) 1 8 Try.underlying29 hi hz0 hz1 hz2 rfl (by decide) _ _ _ rfl (hrow2.alloc _) ⟨w2.heap.size, 0, none⟩ 1 1 [.int .i64 pre.length] rfl rfl (cell_one_new _ _ _) (by simp [Value.oneCell']) (by unfold maxLen; omega) (by omega) (by have := hb2.size; simp; omega) ?_; intro v3 w3 hown3 hgrow3 _; obtain ⟨g3, cap3, rfl⟩ := ownsRow_succ hown3; obtain ⟨hv1, hv2, hr2, hk2, hb3⟩ := boxed_appended hsv2 (by decide) hrow2 (n₀ := w1.heap.size) (by have := hb2.size; omega) (by omega) (Nat.le_refl _) hown3 hgrow3; have hc03 := hv1.cell; have hf03 := hv1.frozen; have hnb3 : Boxed w3 (w1.heap.size + 1) 3 (.int .i64 pre.length) := (hnb2.alloc _).kept hgrow3 (own_ne (B := w1.heap.size + 1) hrow2 (by omega)).symm; have hc13 := hnb3.cell; have hf13 := hnb3.frozen)))
      · have ht : told1 x.g = true := HD.out.trans (by assumption)
        have hnb4 := hnb3.kept (grownBy_setCell' w3 w1.heap.size (.slice (some ⟨g3, 0, none⟩) ((toldL 0 (pre.map Itm.g)).length + 1) cap3)) (by simp)
        refine ⟨((keepsOthers_of_below hb2).trans hk2).trans (KeepsOthers.setCell _ _ _), ?_, ⟨⟨_, hv2.kept (grownBy_setCell' _ _ _) (by simp), ?_, trivial⟩, ?_⟩, ?_⟩
        · exact ((hb2.mono (by omega)).trans hb3).setCell (p := ⟨w1.heap.size + 1, 0, none⟩) (by simp) _
        · rw [HT.out _ ht]
          have := hr2.kept (grownBy_setCell' _ (w1.heap.size + 1) (.int .i64 (pre.length + 1 : Int))) (.inr (own_ne (B := w1.heap.size + 1) hr2 (by omega)))
          simpa using this
        · rw [HL.out]
          exact hnb4.set _
        · exact (hB.trans ((hb2.mono (by omega)).trans hb3)).setCell (p := ⟨w1.heap.size + 1, 0, none⟩) (by simp) _
      · have ht : told1 x.g = false := HD.out.trans (by assumption)
        refine ⟨(keepsOthers_of_below hb2).trans (KeepsOthers.setCell _ _ _), (hb2.mono (by omega)).setCell (p := ⟨w1.heap.size + 1, 0, none⟩) (by simp) _, ⟨⟨sv, hsv2.kept (grownBy_setCell' w2 _ _) (by simp), ?_, trivial⟩, ?_⟩, (hB.trans (hb2.mono (by omega))).setCell (p := ⟨w1.heap.size + 1, 0, none⟩) (by simp) _⟩
        · rw [HT.out _ ht]
          simp only [Bool.false_eq_true, if_false, List.append_nil]
          exact hrow2.kept (grownBy_setCell' w2 _ _) (.inr (own_ne (B := w1.heap.size + 1) hrow2 (by omega)))
        · rw [HL.out]
          exact hnb2.set _
    · have HD : Hid (told1 x.g = false) := by
        have : told1 x.g = false := by simp [told1, Itm.g, c1]
        exact this
      gi_wp2
      refine ⟨trivial, ?_⟩
      gi_wp2
      refine ⟨KeepsOthers.setCell _ _ _, (Below.refl _ _).setCell (p := ⟨w1.heap.size + 1, 0, none⟩) (by simp) _, ⟨⟨sv, hsv.kept (grownBy_setCell' W _ _) (by simp), ?_, trivial⟩, ?_⟩, hB.setCell (p := ⟨w1.heap.size + 1, 0, none⟩) (by simp) _⟩
      · rw [HT.out _ HD.out]
        simp only [Bool.false_eq_true, if_false, List.append_nil]
        exact hrow.kept (grownBy_setCell' W _ _) (.inr (own_ne (B := w1.heap.size + 1) hrow (by omega)))
      · rw [HL.out]
        exact hnb.set _
  case done =>
    rintro D ys W hD hys ⟨⟨⟨sv, hsv, hrow, -⟩, hnb⟩, hB⟩ hK
    rw [hys] at hrow
    have hc0 := hsv.cell
    clear hA hB0 hb4 bO bN
    gi_wp2
    refine ⟨by simp, .inl ⟨_, _, rfl, run_takeDeferred hK, ?_⟩⟩
    exact ⟨_, results_tmp2 rfl _ _ _, sv, rfl, own_mono (ownsRow_putObj hrow _ hK rfl) (by omega), (hBw1.trans (hB.mono hwle)).trans (belowK_b (w := w) (Nat.le_refl _) W D _ _ (by simp at hD; omega) hK rfl rfl)⟩
  case stop =>
    rintro D cc pre W _ _ hh _
    exact hh.elim

theorem told_yes {v : Int} {ks : Fo} (h : rightB v ks = true) {A : Option Addr} {c : Nat} (w : World) (hl : ks.len ≤ c) (hc : c ≤ maxLen) (hk : KidsAt w w.heap.size A 0 ks) :
    Calls Try.prog 11 #[.agg #[.int .i64 v, .slice A ks.len c]] w fun e W' => ∃ sv, e = .returned (.tuple #[sv, .int .i64 0]) ∧
      W'.ownsRow w.heap.size 3 1 sv (toldL 0 (seen 1 v ks)).length ((toldL 0 (seen 1 v ks)).map (Value.int .i64)) ∧ Below w.heap.size w W' :=
  callsIn_wide.1 (told_in 3 (Nat.le_refl _) h w hl hc hk)
end Go.Proofs.Ytkafoeaffcbheaa
