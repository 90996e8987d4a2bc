/- vote.Flows, at every tree. -/
import Derived.Test.YtkafoeaffcbheaaVd
namespace Go.Proofs.Ytkafoeaffcbheaa
open Go.RowKit Go.Shelf

attribute [local go_sem] Oper.semAt_some
set_option linter.unusedVariables false

/-- How many flows a tree has. -/
def flowsT (v : Int) (ks : Fo) : Nat := 2 * ks.size + 3 * (toldL 0 (seen 1 v ks)).length

theorem fold2 (t : Array Value) (p q : Nat) (a b : Value) : (#[p, q].zip #[a, b]).foldl (fun t x => match x with | (p, v) => t.setIfInBounds p v) t = (t.setIfInBounds p a).setIfInBounds q b := by
  simp
theorem ret_flow {a b : Int} (h : b = a) : Ending.returned (.tuple #[.int .i64 a, .int .i64 0]) = .returned (.tuple #[.int .i64 b, .int .i64 0]) := by cases h; rfl

set_option maxRecDepth 100000 in
set_option maxHeartbeats 1000000 in
theorem flows_no {v : Int} {ks : Fo} (h : rightB v ks = false) {A : Option Addr} {c : Nat} (w : World) (hl : ks.len ≤ c) (hc : c ≤ maxLen) (hk : KidsAt w w.heap.size A 0 ks) :
    Calls Try.prog 18 #[.agg #[.int .i64 v, .slice A ks.len c]] w fun e W' => e = .returned (.tuple #[.int .i64 0, .int .i64 1]) ∧ Below w.heap.size w W' := by
  obtain ⟨w0, hw0⟩ : ∃ w0, w.alloc (.cells #[.int .i64 v, .slice A ks.len c] 24) = w0 := ⟨_, rfl⟩
  have hz : w0.heap.size = w.heap.size + 1 := by rw [← hw0]; simp
  have hbox0 : w0.cell? ⟨w.heap.size, 0, none⟩ = some (.int .i64 v) := by rw [← hw0]; simp
  have hbox : w0.cell? ⟨w.heap.size, 1, none⟩ = some (.slice A ks.len c) := by rw [← hw0]; simp
  have hBw : Below w.heap.size w w0 := by rw [← hw0]; exact (Below.refl _ _).alloc (Nat.le_refl _) _
  have hr := told_no h w0 hl hc (hk.keep (w' := w0) hBw.size fun b o hb => hBw.cell (p := ⟨b, o, none⟩) hb)
  have HR := Lib.hid hr
  clear hr h hk
  go_enter Try.func18, Try.ntmps18
  go_wp2_with (go_at_call 11; refine HR.out.mono ?_; clear HR; rintro e w1 ⟨rfl, hb1⟩)
  go_ret2
  exact ⟨rfl, hBw.trans (hb1.mono hBw.size)⟩

set_option maxRecDepth 100000 in
set_option maxHeartbeats 2000000 in
theorem flows_in (n : Nat) (hn : 3 ≤ n) {v : Int} {ks : Fo} (h : rightB v ks = true) {A : Option Addr} {c : Nat} (w : World) (hl : ks.len ≤ c) (hc : c ≤ maxLen) (hk : KidsAt w w.heap.size A 0 ks) :
    CallsIn Fence.wide n Try.prog 18 #[.agg #[.int .i64 v, .slice A ks.len c]] w fun e W' => e = .returned (.tuple #[.int .i64 (flowsT v ks), .int .i64 0]) ∧ Below w.heap.size w W' := by
  have h1 : 1 ≤ n := by omega
  have hsz := right_size h
  have hsl := seen_len h
  have htl := toldL_len (seen 1 v ks) 0
  obtain ⟨w0, hw0⟩ : ∃ w0, w.alloc (.cells #[.int .i64 v, .slice A ks.len c] 24) = w0 := ⟨_, rfl⟩
  have hz : w0.heap.size = w.heap.size + 1 := by rw [← hw0]; simp
  have hbox0 : w0.cell? ⟨w.heap.size, 0, none⟩ = some (.int .i64 v) := by rw [← hw0]; simp
  have hbox : w0.cell? ⟨w.heap.size, 1, none⟩ = some (.slice A ks.len c) := by rw [← hw0]; simp
  have hBw : Below w.heap.size w w0 := by rw [← hw0]; exact (Below.refl _ _).alloc (Nat.le_refl _) _
  have hk0 : KidsAt w0 w0.heap.size A 0 ks := hk.keep (w' := w0) hBw.size fun b o hb => hBw.cell (p := ⟨b, o, none⟩) hb
  have hr := told_yes h w0 hl hc hk0
  have hr2 : Calls Try.prog 11 #[.agg #[.int .i64 v, .slice A ks.len c]] w0 fun e W' => ∃ a cc, e = .returned (.tuple #[.slice a (toldL 0 (seen 1 v ks)).length cc, .int .i64 0]) ∧ Below w0.heap.size w0 W' :=
    hr.mono fun e W' ⟨sv, he, ho, hb⟩ => by
      rcases ho.2 with ⟨rfl, h0⟩ | ⟨g, cap, cur, rfl, _⟩
      · exact ⟨none, 0, by rw [he, h0], hb⟩
      · exact ⟨_, _, he, hb⟩
  have hnode : NodeAt w0 w0.heap.size w.heap.size 0 v ks := ⟨c, A, by omega, hbox0, hbox, hl, hc, hk0⟩
  have HR := Lib.hid hr2
  have HN := Lib.hid hnode
  clear hr hr2 h hk hk0 hnode
  refine callsIn_of_wp_marks Try.func18 rfl trivial ?_ rfl
  simp only [Try.ntmps18, List.size_toArray, List.length_cons, List.length_nil, Nat.reduceAdd, Nat.reduceSub, Array.replicate_succ, Array.replicate_zero, List.push_toArray, List.append_toArray, List.nil_append, List.cons_append]
  gi_wp2_with (first
    | (refine ⟨trivial, ?_⟩; gi_at_call 11; refine (callsIn_wide.2 HR.out).mono ?_; clear HR; rintro e w1 ⟨ta, tc, rfl, hb1⟩)
    | (refine ⟨trivial, ?_⟩; gi_at_call 29; refine (walk_in Fence.wide (n - 1) trivial rfl _ _ _).mono ?_; rintro e w' ⟨rfl, rfl⟩))
  have hA : NodeAt w1 w1.heap.size w.heap.size 0 v ks := HN.out.keep hb1.size fun b o hb => hb1.cell (p := ⟨b, o, none⟩) hb
  have hBw1 : Below w.heap.size w w1 := hBw.trans (hb1.mono hBw.size)
  clear HN hbox0 hbox hb1 hBw hz hw0
  generalize hTL : (toldL 0 (seen 1 v ks)).length = T at htl ⊢
  have hwle : w.heap.size ≤ w1.heap.size := hBw1.size
  have bN := Boxed.new w1 3 (.int .i64 0)
  have bT := Boxed.new (w1.alloc (.cells #[.int .i64 0] 3)) 56 (.pointer (some ⟨w.heap.size, 0, none⟩))
  have bD := Boxed.new ((w1.alloc (.cells #[.int .i64 0] 3)).alloc (.cells #[.pointer (some ⟨w.heap.size, 0, none⟩)] 56)) 3 (.int .i64 1)
  simp only [World.size_alloc] at bT bD
  have hB0 : Below w1.heap.size w1 (((w1.alloc (.cells #[.int .i64 0] 3)).alloc (.cells #[.pointer (some ⟨w.heap.size, 0, none⟩)] 56)).alloc (.cells #[.int .i64 1] 3)) :=
    below_alloc (below_alloc (below_alloc (Below.refl _ _) _) _) _
  refine wpIn_rangeFunc_ownF rfl h1 (gf := 36) (lb := #[.pointer (some ⟨w1.heap.size + 1, 0, none⟩), .pointer (some ⟨w1.heap.size + 1 + 1, 0, none⟩)]) rfl trivial (enters_of Try.func36 (by kernel_rfl) rfl)
    (walk_stops Fence.wide rfl (n - 1) trivial trivial rfl w1.heap.size ks.size (w1.heap.size + 1) (w1.heap.size + 1 + 1) w.heap.size 0 v ks w1 _ ?s1 ?s2 ?s3 hB0 (bT.alloc _).cell bD.cell hA (Nat.le_refl _)) belowK_t (belowK_b ?s6) (Below.refl _ _) (fun _ => rfl)
    (fun pre W => Boxed W w1.heap.size 3 (.int .i64 pre.length) ∧ Below w1.heap.size w1 W)
    (fun _ _ _ => False)
    (OwnFrom.and (Own.from (fun s X Y row hs hg hrow => hs.kept hg (fun e' => by
        obtain ⟨o, ho, hcc⟩ := hrow _ e'.symm
        rw [show X.heap[w1.heap.size]? = _ from hs] at ho; cases ho; cases hcc)) _) (ownFrom_below (Nat.le_refl _) ?s8))
    (fun _ _ _ _ _ hs _ _ => hs)
    ?s9
    (fun x => { tmps := #[.agg #[.int .i64 v, .slice A ks.len c], .pointer (some ⟨w.heap.size, 0, none⟩), .int .i64 0, .int .i64 0, .slice ta T tc, .int .i64 0, .pointer (some ⟨w1.heap.size, 0, none⟩), .tuple #[.slice ta T tc, .int .i64 0],
        .agg #[.int .i64 v, .slice A ks.len c], .tuple #[.slice ta T tc, .int .i64 0], .slice ta T tc, .int .i64 0, .int .i64 0, .bool false, undef,
        .func (.func 36) #[] #[.pointer (some ⟨w1.heap.size + 1, 0, none⟩), .pointer (some ⟨w1.heap.size + 1 + 1, 0, none⟩)], .int .i64 x.d, .pointer (some ⟨x.b, x.off, none⟩),
        undef, undef, undef, undef, undef, undef, undef, undef, undef], defers := [] }) ?assign ?body ?done ?stop
  case s1 => simp; try omega
  case s2 => simp; try omega
  case s3 => simp; try omega
  case s6 => simp; try omega
  case s8 => simp; try omega
  case s9 => exact ⟨(bN.alloc _).alloc _, hB0⟩
  case assign =>
    intro l x W K hK
    unfold Itm.enc
    refine wpIn_skip ?_
    show K _ _
    dsimp only
    rw [fold2]
    exact hK
  case body =>
    rintro l pre x W ⟨hnb, hB⟩ hlt
    have hc1 := hnb.cell
    have hf1 := hnb.frozen
    have hp : pre.length < 64 := by omega
    have HL : Hid ((((pre ++ [x]).length : Nat) : Int) = (pre.length : Int) + 1) := by
      have : (((pre ++ [x]).length : Nat) : Int) = (pre.length : Int) + 1 := by simp
      exact this
    clear hA hB0 bN bT bD hTL
    gi_wp2
    exact ⟨KeepsOthers.setCell _ _ _, (Below.refl _ _).setCell (p := ⟨w1.heap.size, 0, none⟩) (Nat.le_refl _) _, by rw [HL.out]; exact hnb.set _, hB.setCell (p := ⟨w1.heap.size, 0, none⟩) (Nat.le_refl _) _⟩
  case done =>
    rintro D ys W hD hys ⟨hnb, hB⟩ hK
    have hyl : ys.length = ks.size + 1 := by rw [← hsl, ← hys, List.length_map]
    rw [hyl] at hnb
    have hc1 := hnb.cell
    have hT : T ≤ 64 := by omega
    have hk64 : ks.size ≤ 64 := by omega
    have HF : Hid ((flowsT v ks : Int) = 2 * ((ks.size : Int) + 1 - 1) + 3 * (T : Int)) := by
      have : (flowsT v ks : Int) = 2 * ((ks.size : Int) + 1 - 1) + 3 * (T : Int) := by unfold flowsT; rw [hTL]; omega
      exact this
    have hcast : (((ks.size + 1 : Nat)) : Int) = (ks.size : Int) + 1 := by omega
    rw [hcast] at hc1
    clear hA hB0 bN bT bD hTL hys hyl hsl hnb hcast
    gi_wp2
    refine ⟨by simp, .inl ⟨_, _, rfl, run_takeDeferred hK, ?_⟩⟩
    exact ⟨_, results_tmp2 rfl _ _ _, ret_flow (a := 2 * (ks.size : Int) + 3 * (T : Int)) (by rw [HF.out]; omega), (hBw1.trans (hB.mono hwle)).trans (belowK_b (w := w) (Nat.le_refl _) W D _ _ (by simp at hD; omega) hK rfl rfl)⟩
  case stop =>
    rintro D cc pre W _ _ hh _
    exact hh.elim

theorem flows_yes {v : Int} {ks : Fo} (h : rightB v ks = true) {A : Option Addr} {c : Nat} (w : World) (hl : ks.len ≤ c) (hc : c ≤ maxLen) (hk : KidsAt w w.heap.size A 0 ks) :
    Calls Try.prog 18 #[.agg #[.int .i64 v, .slice A ks.len c]] w fun e W' => e = .returned (.tuple #[.int .i64 (flowsT v ks), .int .i64 0]) ∧ Below w.heap.size w W' :=
  callsIn_wide.1 (flows_in 3 (Nat.le_refl _) h w hl hc hk)
end Go.Proofs.Ytkafoeaffcbheaa
