/- The walk over the nodes of a tree (vote.walk, its closure, vote.visit), as a function that is ranged over. -/
import Derived.Test.YtkafoeaffcbheaaVt
import Derived.RangeFuncNested
import Derived.RangeFuncBound
import Derived.RangeFuncCalls
import Derived.RangeFuncLeaves
import Derived.RangeFuncBox
import Derived.Shelf.Abstract
import Derived.Shelf.RegionOpen
import Derived.WalkKit
import Derived.OwnWalkIn
import Derived.TacticsInMore
import Derived.LoopNIn
import Derived.LoopIn
import Derived.Lib.Hide
namespace Go.Proofs.Ytkafoeaffcbheaa
open Go.RowKit Go.Shelf

attribute [local go_sem] Oper.semAt_some
set_option linter.unusedVariables false

theorem roundIn_anyDepth {F : Fence} (hd : F.depth = none) {m m' : Nat} {P : Program} {l : Nat} {f : FuncId} {tmps : Array Value} {assign body : Code} {w : World} {R : Ending → World → Prop}
    (h : RoundIn F m P l f tmps assign body w R) : RoundIn F m' P l f tmps assign body w R := ⟨h.1, fun c cs _ => h.2 c cs (fun d hh => by rw [hd] at hh; cases hh)⟩
theorem yieldAt_anyDepth {F : Fence} (hd : F.depth = none) {m : Nat} (m' : Nat) {P : Program} {l : Nat} {args : Array Value} {W : World} {R : Ending → World → Prop} (h : YieldAt F m P l args W R) : YieldAt F m' P l args W R := by
  obtain ⟨fn, tmps, assign, body, hy, hR⟩ := h
  exact ⟨fn, tmps, assign, body, hy, roundIn_anyDepth hd hR⟩

theorem cell_of_box {W : World} {B : Nat} {v : Value} {t : TypeId} (h : W.heap[B]? = some (.cells #[v] t (0, 0))) : W.cell? ⟨B, 0, none⟩ = some v ∧ W.frozen? ⟨B, 0, none⟩ = false := by
  constructor <;> simp [World.cell?, World.frozen?, h]
theorem cell_new (W : World) (v : Value) (t : TypeId) : (W.alloc (.cells #[v] t)).cell? ⟨W.heap.size, 0, none⟩ = some v ∧ (W.alloc (.cells #[v] t)).frozen? ⟨W.heap.size, 0, none⟩ = false :=
  cell_of_box (World.alloc_heap_new W _)
theorem cell_alloc {W : World} {a : Addr} {v : Value} (o : Obj) (h : W.cell? a = some v ∧ W.frozen? a = false) : (W.alloc o).cell? a = some v ∧ (W.alloc o).frozen? a = false :=
  ⟨cell_kept h.1 (World.grownBy_alloc W o none) (fun r e => by cases e), (frozen_kept h.1 (World.grownBy_alloc W o none) (fun r e => by cases e)).trans h.2⟩
/-- Four new variables. -/
theorem boxes4 {W : World} {N : Nat} (hz : W.heap.size = N) (v1 v2 v3 v4 : Value) (t1 t2 t3 t4 : TypeId) :
    (((((W.alloc (.cells #[v1] t1)).alloc (.cells #[v2] t2)).alloc (.cells #[v3] t3)).alloc (.cells #[v4] t4)).cell? ⟨N, 0, none⟩ = some v1 ∧ ((((W.alloc (.cells #[v1] t1)).alloc (.cells #[v2] t2)).alloc (.cells #[v3] t3)).alloc (.cells #[v4] t4)).frozen? ⟨N, 0, none⟩ = false) ∧
    (((((W.alloc (.cells #[v1] t1)).alloc (.cells #[v2] t2)).alloc (.cells #[v3] t3)).alloc (.cells #[v4] t4)).cell? ⟨N + 1, 0, none⟩ = some v2 ∧ ((((W.alloc (.cells #[v1] t1)).alloc (.cells #[v2] t2)).alloc (.cells #[v3] t3)).alloc (.cells #[v4] t4)).frozen? ⟨N + 1, 0, none⟩ = false) ∧
    (((((W.alloc (.cells #[v1] t1)).alloc (.cells #[v2] t2)).alloc (.cells #[v3] t3)).alloc (.cells #[v4] t4)).cell? ⟨N + 1 + 1, 0, none⟩ = some v3 ∧ ((((W.alloc (.cells #[v1] t1)).alloc (.cells #[v2] t2)).alloc (.cells #[v3] t3)).alloc (.cells #[v4] t4)).frozen? ⟨N + 1 + 1, 0, none⟩ = false) ∧
    (((((W.alloc (.cells #[v1] t1)).alloc (.cells #[v2] t2)).alloc (.cells #[v3] t3)).alloc (.cells #[v4] t4)).cell? ⟨N + 1 + 1 + 1, 0, none⟩ = some v4 ∧ ((((W.alloc (.cells #[v1] t1)).alloc (.cells #[v2] t2)).alloc (.cells #[v3] t3)).alloc (.cells #[v4] t4)).frozen? ⟨N + 1 + 1 + 1, 0, none⟩ = false) := by
  subst hz
  have c1 := cell_new W v1 t1
  have c2 := cell_new (W.alloc (.cells #[v1] t1)) v2 t2
  have c3 := cell_new ((W.alloc (.cells #[v1] t1)).alloc (.cells #[v2] t2)) v3 t3
  have c4 := cell_new (((W.alloc (.cells #[v1] t1)).alloc (.cells #[v2] t2)).alloc (.cells #[v3] t3)) v4 t4
  simp only [World.size_alloc] at c2 c3 c4
  exact ⟨cell_alloc _ (cell_alloc _ (cell_alloc _ c1)), cell_alloc _ (cell_alloc _ c2), cell_alloc _ c3, c4⟩

/-- What a round is handed: a depth and a node's address, and that the node lies there. -/
structure Itm (w0 : World) (n₀ M : Nat) where
  d : Int
  b : Nat
  off : Nat
  v : Int
  ks : Fo
  at_ : NodeAt w0 n₀ b off v ks
  sz : ks.size ≤ M
def Itm.g {w0 : World} {n₀ M : Nat} (x : Itm w0 n₀ M) : Int × Int × Fo := (x.d, x.v, x.ks)
def Itm.enc {w0 : World} {n₀ M : Nat} (x : Itm w0 n₀ M) : Array Value := #[.int .i64 x.d, .pointer (some ⟨x.b, x.off, none⟩)]

set_option maxRecDepth 100000 in
set_option maxHeartbeats 2000000 in
theorem visit_in (F : Fence) (hd : F.depth = none) (hf : F.fn 37) (hro : F.round = none) (l n₀ M N : Nat) (w0 : World) (J Jx : List (Itm w0 n₀ M) → World → Prop)
    (hY : ∀ m pre (x : Itm w0 n₀ M) W, J pre W → pre.length < N → YieldAt F m Try.prog l #[.int .i64 x.d, .pointer (some ⟨x.b, x.off, none⟩)] W fun e W' =>
      (e = .returned (.bool true) ∧ J (pre ++ [x]) W' ∧ Below n₀ W W') ∨ (e = .returned (.bool false) ∧ Jx (pre ++ [x]) W')) :
    ∀ (s n : Nat) (b off : Nat) (v : Int) (ks : Fo) (d : Int) (pre : List (Itm w0 n₀ M)) (W : World), ks.size < s → ks.size ≤ M → 1 ≤ d → d ≤ 9 → NodeAt w0 n₀ b off v ks → Below n₀ w0 W → J pre W →
      pre.length + (seen d v ks).length ≤ N →
      CallsIn F n Try.prog 37 #[.pointer (some ⟨b, off, none⟩), .int .i64 d, .func (.yield l) #[] #[]] W fun e W' =>
        (e = .returned (.bool true) ∧ ∃ ys : List (Itm w0 n₀ M), ys.map Itm.g = seen d v ks ∧ J (pre ++ ys) W' ∧ Below n₀ W W') ∨
        (e = .returned (.bool false) ∧ ∃ q : List (Itm w0 n₀ M), q.map Itm.g <+: seen d v ks ∧ Jx (pre ++ q) W') := by
  intro s
  induction s with
  | zero => intro n b off v ks d pre W hs; omega
  | succ s ih =>
    intro n b off v ks d pre W hs hM hd1 hd9 hat hB hJ hN
    obtain ⟨x0, hx0d, hx0b, hx0o, hx0g⟩ : ∃ x0 : Itm w0 n₀ M, x0.d = d ∧ x0.b = b ∧ x0.off = off ∧ x0.g = (d, v, ks) := ⟨⟨d, b, off, v, ks, hat, hM⟩, rfl, rfl, rfl, rfl⟩
    obtain ⟨c, A, hb, h0, h1, hl, hc, hk⟩ := hat
    have hdd : ∀ k : Nat, (F.depth.isSome = true → 1 ≤ k) := fun k h => by rw [hd] at h; cases h
    have hlen : pre.length < N := by simp only [seen, List.length_cons] at hN; omega
    have hY0 := hY (n - 1) pre x0 W hJ hlen
    rw [hx0d, hx0b, hx0o] at hY0
    obtain ⟨fn, tmps, assign, body, hy, hR⟩ := hY0
    by_cases h8 : 8 < d
    · have hseen : seen d v ks = [(d, v, ks)] := by simp [seen, h8]
      clear hx0d hx0b hx0o hN
      refine callsIn_of_wp Try.func37 rfl hf ?_ hro
      simp only [Try.ntmps37, List.size_toArray, List.length_cons, List.length_nil, Nat.reduceAdd, Nat.reduceSub, Array.replicate_succ, Array.replicate_zero, List.push_toArray, List.append_toArray, List.nil_append, List.cons_append]
      rw [hseen]
      have G := Lib.hid hx0g
      clear hseen hx0g
      gi_wp2_with ((try refine ⟨hdd _, ?_⟩); refine hR.mono ?_; clear hR; rintro e W2 (⟨rfl, hJ2, hb2⟩ | ⟨rfl, hx2⟩))
      · go_ret
        exact .inl ⟨rfl, [x0], by simp [G.out], hJ2, hb2⟩
      · go_ret
        exact .inr ⟨rfl, [x0], ⟨[], by simp [G.out]⟩, hx2⟩
    · have hseen : seen d v ks = (d, v, ks) :: ks.visits (d + 1) := by simp [seen, h8]
      rw [hseen] at hN ⊢
      have G := Lib.hid hx0g
      have HN := Lib.hid hN
      clear hx0d hx0b hx0o hN hseen hx0g
      have hcell : ∀ W', Below n₀ w0 W' → W'.cell? ⟨b, off + 1, none⟩ = some (.slice A ks.len c) := fun W' h => (h.cell (p := ⟨b, off + 1, none⟩) hb).trans h1
      have hks : ks.size < s + 1 := hs
      refine callsIn_of_wp Try.func37 rfl hf ?_ hro
      simp only [Try.ntmps37, List.size_toArray, List.length_cons, List.length_nil, Nat.reduceAdd, Nat.reduceSub, Array.replicate_succ, Array.replicate_zero, List.push_toArray, List.append_toArray, List.nil_append, List.cons_append]
      gi_wp2_with ((try refine ⟨hdd _, ?_⟩); refine hR.mono ?_; clear hR; rintro e W2 (⟨rfl, hJ2, hb2⟩ | ⟨rfl, hx2⟩); have hc2 := hcell _ (hB.trans hb2))
      · have hB2 : Below n₀ w0 W2 := hB.trans hb2
        gi_loopw [20] (fun i wr => ∃ (k : Nat) (rest : Fo) (ys : List (Itm w0 n₀ M)), i = .int .i64 k ∧ k + rest.len = ks.len ∧ rest.size ≤ ks.size ∧ KidsAt w0 n₀ A k rest ∧
            ys.map Itm.g ++ rest.visits (d + 1) = ks.visits (d + 1) ∧ J (pre ++ x0 :: ys) wr ∧ Below n₀ W2 wr) (fun i wr => ks.len - (intOf i).toNat)
        case atStart => exact ⟨0, ks, [], rfl, by omega, Nat.le_refl _, hk, rfl, by simpa using hJ2, Below.refl _ _⟩
        case round =>
          obtain ⟨k, rest, ys, rfl, hkl, hsz, hka, hvis, hJw, hbw⟩ := hrel
          have hc3 := hcell _ (hB2.trans hbw)
          cases rest with
          | nil =>
            have hkl' : k = ks.len := by simpa [Fo.len] using hkl
            have hge : ¬ k < ks.len := by omega
            have HV := Lib.hid hvis
            clear hvis hkl hkl'
            gi_wp2
            go_ret
            exact .inl ⟨rfl, x0 :: ys, by have := HV.out; simp [Fo.visits] at this; simp [G.out, this], hJw, hb2.trans hbw⟩
          | cons v' ks' r =>
            obtain ⟨b', off', hA, hn⟩ := hka.head
            simp only [Fo.len, Fo.size] at hkl hsz
            have hlt : k < ks.len := by omega
            have hkm : (k : Int) < 9223372036854775807 := by unfold maxLen at hc; omega
            rw [visits_cons] at hvis
            have hNN := HN.out
            have hvl := congrArg List.length hvis
            simp only [List.length_append, List.length_map] at hvl
            have hIH := ih (n - 1) b' (off' + k * 2) v' ks' (d + 1) (pre ++ x0 :: ys) wr (by omega) (by omega) (by omega) (by omega) hn (hB2.trans hbw) hJw (by simp only [List.length_append, List.length_cons] at hNN ⊢; omega)
            have HI := Lib.hid hIH
            have HV := Lib.hid hvis
            have HK := Lib.hid hkl
            have HR := Lib.hid hka
            subst hA
            clear hIH hvis hkl hka hvl hNN
            gi_wp2_with ((try refine ⟨hdd _, ?_⟩); gi_at_call 37; refine HI.out.mono ?_; clear HI; rintro e W3 (⟨rfl, zs, hzs, hJ3, hb3⟩ | ⟨rfl, q, hq, hx3⟩))
            · go_roundw
              case rel =>
                refine ⟨k + 1, r, ys ++ zs, by go_num, by have := HK.out; omega, by omega, ?_, ?_, by simpa [List.append_assoc] using hJ3, hbw.trans hb3⟩
                · exact HR.out.2
                · rw [List.map_append, hzs, List.append_assoc]; exact HV.out
              case measure => simp [intOf]; omega
            · go_ret
              refine .inr ⟨rfl, x0 :: (ys ++ q), ?_, by simpa [List.append_assoc] using hx3⟩
              obtain ⟨u, hu⟩ := hq
              refine ⟨u ++ r.visits (d + 1), ?_⟩
              have h5 := HV.out
              rw [← hu] at h5
              simp only [List.map_cons, List.map_append, List.cons_append, G.out, List.cons.injEq, true_and]
              rw [← h5]
              simp [List.append_assoc]
      · go_ret
        exact .inr ⟨rfl, [x0], ⟨ks.visits (d + 1), by simp [G.out]⟩, hx2⟩

set_option maxHeartbeats 1000000 in
/-- The closure of vote.walk, called with a yield. -/
theorem walk1_in (F : Fence) (hd : F.depth = none) (hf1 : F.fn 36) (hf : F.fn 37) (hro : F.round = none) (n l n₀ M : Nat) (w0 : World) (Bt Bd b off : Nat) (v : Int) (ks : Fo) (J Jx : List (Itm w0 n₀ M) → World → Prop)
    (hY : ∀ pre (x : Itm w0 n₀ M) W, J pre W → pre.length < (seen 1 v ks).length → YieldAt F (n - 1) Try.prog l x.enc W fun e W' =>
      (e = .returned (.bool true) ∧ J (pre ++ [x]) W' ∧ Below n₀ W W') ∨ (e = .returned (.bool false) ∧ Jx (pre ++ [x]) W'))
    (W : World) (hBt : W.cell? ⟨Bt, 0, none⟩ = some (.pointer (some ⟨b, off, none⟩))) (hBd : W.cell? ⟨Bd, 0, none⟩ = some (.int .i64 1)) (hT : NodeAt w0 n₀ b off v ks) (hW : Below n₀ w0 W) (hM : ks.size ≤ M) (h0 : J [] W) :
    CallsIn F n Try.prog 36 #[.func (.yield l) #[] #[], .pointer (some ⟨Bt, 0, none⟩), .pointer (some ⟨Bd, 0, none⟩)] W fun e W' => (∃ r, e = .returned r) ∧
      ((∃ ys : List (Itm w0 n₀ M), ys.map Itm.g = seen 1 v ks ∧ J ys W') ∨ (∃ pre : List (Itm w0 n₀ M), pre.map Itm.g <+: seen 1 v ks ∧ Jx pre W')) := by
  have hdd : ∀ k : Nat, (F.depth.isSome = true → 1 ≤ k) := fun k h => by rw [hd] at h; cases h
  have hp := visit_in F hd hf hro l n₀ M (seen 1 v ks).length w0 J Jx (fun m pre x W hj hl => yieldAt_anyDepth hd m (hY pre x W hj hl)) (ks.size + 1) (n - 1) b off v ks 1 [] W (by omega) hM (by omega) (by omega) hT hW h0 (by simp)
  refine callsIn_of_wp Try.func36 rfl hf1 ?_ hro
  simp only [Try.ntmps36, List.size_toArray, List.length_cons, List.length_nil, Nat.reduceAdd, Nat.reduceSub, Array.replicate_succ, Array.replicate_zero, List.push_toArray, List.append_toArray, List.nil_append, List.cons_append]
  gi_wp2_with ((try refine ⟨hdd _, ?_⟩); gi_at_call 37; refine hp.mono ?_; clear hp; rintro e W1 (⟨rfl, ys, hys, hJ1, _⟩ | ⟨rfl, q, hq, hx⟩))
  · go_end0
    exact ⟨⟨_, rfl⟩, .inl ⟨ys, hys, by simpa using hJ1⟩⟩
  · go_end0
    exact ⟨⟨_, rfl⟩, .inr ⟨q, hq, by simpa using hx⟩⟩

set_option maxHeartbeats 1000000 in
/-- vote.walk: both parameters are boxed; the function value captures the boxes. -/
theorem walk_in (F : Fence) (n : Nat) (hf : F.fn 29) (hro : F.round = none) (p : Option Addr) (d : Int) (w : World) :
    CallsIn F n Try.prog 29 #[.pointer p, .int .i64 d] w fun e w' => e = .returned (.func (.func 36) #[] #[.pointer (some ⟨w.heap.size, 0, none⟩), .pointer (some ⟨w.heap.size + 1, 0, none⟩)]) ∧
      (w.alloc (.cells #[.pointer p] 56)).alloc (.cells #[.int .i64 d] 3) = w' := by
  refine callsIn_of_wp Try.func29 rfl hf ?_ hro
  simp only [Try.ntmps29, List.size_toArray, List.length_cons, List.length_nil, Nat.reduceAdd, Nat.reduceSub, Array.replicate_succ, Array.replicate_zero, List.push_toArray, List.append_toArray, List.nil_append, List.cons_append]
  gi_wp2
  go_ret
  exact ⟨rfl, rfl⟩

/-- What vote.walk hands back, as a function that is ranged over. -/
theorem walk_stops (F : Fence) (hd : F.depth = none) (n : Nat) (hf1 : F.fn 36) (hf : F.fn 37) (hro : F.round = none) (n₀ M Bt Bd b off : Nat) (v : Int) (ks : Fo) (w0 w : World)
    (hBt : Bt < w.heap.size) (hBd : Bd < w.heap.size) (hn₀ : n₀ ≤ w.heap.size) (hb0 : Below n₀ w0 w)
    (hc : w.cell? ⟨Bt, 0, none⟩ = some (.pointer (some ⟨b, off, none⟩))) (hc1 : w.cell? ⟨Bd, 0, none⟩ = some (.int .i64 1)) (hT : NodeAt w0 n₀ b off v ks) (hM : ks.size ≤ M) :
    SeqStopsK F n Try.prog 36 #[.pointer (some ⟨Bt, 0, none⟩), .pointer (some ⟨Bd, 0, none⟩)] (Itm.enc (w0 := w0) (n₀ := n₀) (M := M)) (Below n₀)
      (fun ys => ys.map Itm.g = seen 1 v ks) (fun pre => pre.map Itm.g <+: seen 1 v ks) (seen 1 v ks).length w := fun l J Jx W hW _ _ hY h0 =>
  walk1_in F hd hf1 hf hro n l n₀ M w0 Bt Bd b off v ks J Jx hY W ((hW.cell (p := ⟨Bt, 0, none⟩) hBt).trans hc) ((hW.cell (p := ⟨Bd, 0, none⟩) hBd).trans hc1) hT (hb0.trans (hW.mono hn₀)) hM h0
end Go.Proofs.Ytkafoeaffcbheaa
