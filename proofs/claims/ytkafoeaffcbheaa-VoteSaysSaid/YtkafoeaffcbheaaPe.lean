/- The walk of the law's own function as: a tree as the reference's, so many nodes at most. -/
import Derived.Test.YtkafoeaffcbheaaPb
import Derived.Test.YtkafoeaffcbheaaVh
namespace Go.Proofs.Ytkafoeaffcbheaa
open Go.RowKit
set_option linter.unusedVariables false

/-- The variables of a call of as: the argument (block N), the result (N + 1), the tree that is built (N + 2), the counter (block bl). -/
def AsVar (N bl : Nat) (v : Int) (A : Option Addr) (n c : Nat) (l : Nat) (v3 : Value) (W : World) : Prop :=
  (W.cell? ⟨N, 1, none⟩ = some (.slice A n c) ∧ W.cell? ⟨bl, 0, none⟩ = some (.int .i64 (l : Int)) ∧ W.frozen? ⟨bl, 0, none⟩ = false) ∧
  (W.cell? ⟨N + 1, 0, none⟩ = some (.int .i64 0) ∧ W.cell? ⟨N + 1, 1, none⟩ = some (.slice none 0 0) ∧ W.frozen? ⟨N + 1, 0, none⟩ = false ∧ W.frozen? ⟨N + 1, 1, none⟩ = false) ∧
  W.cell? ⟨N + 1 + 1, 0, none⟩ = some (.int .i64 v) ∧ W.cell? ⟨N + 1 + 1, 1, none⟩ = some v3 ∧ W.frozen? ⟨N + 1 + 1, 1, none⟩ = false
theorem AsVar.grown {N bl : Nat} {v : Int} {A : Option Addr} {n c l l' : Nat} {v3 : Value} {W W' : World} (h : AsVar N bl v A n c l v3 W) (hbl : bl < N) (hN : N + 1 + 1 < W.heap.size) (hg : W.grownBy W' (some bl))
    (hc : W'.cell? ⟨bl, 0, none⟩ = some (.int .i64 (l' : Int))) (hf : W'.frozen? ⟨bl, 0, none⟩ = false) : AsVar N bl v A n c l' v3 W' := by
  have hb : ∀ b, N ≤ b → b ≤ N + 1 + 1 → W'.heap[b]? = W.heap[b]? := fun b h1 h2 => hg.block b (by omega) (by simp; omega)
  obtain ⟨⟨a1, _, _⟩, ⟨b1, b2, b3, b4⟩, c1, c2, c3⟩ := h
  have hC : ∀ b o, N ≤ b → b ≤ N + 1 + 1 → W'.cell? ⟨b, o, none⟩ = W.cell? ⟨b, o, none⟩ := fun b o h1 h2 => World.cell?_of_block (a := ⟨b, o, none⟩) (hb b h1 h2)
  have hF : ∀ b o, N ≤ b → b ≤ N + 1 + 1 → W'.frozen? ⟨b, o, none⟩ = W.frozen? ⟨b, o, none⟩ := fun b o h1 h2 => World.frozen?_of_block (a := ⟨b, o, none⟩) (hb b h1 h2)
  exact ⟨⟨(hC _ _ (by omega) (by omega)).trans a1, hc, hf⟩, ⟨(hC _ _ (by omega) (by omega)).trans b1, (hC _ _ (by omega) (by omega)).trans b2, (hF _ _ (by omega) (by omega)).trans b3, (hF _ _ (by omega) (by omega)).trans b4⟩,
    (hC _ _ (by omega) (by omega)).trans c1, (hC _ _ (by omega) (by omega)).trans c2, (hF _ _ (by omega) (by omega)).trans c3⟩
theorem AsVar.below {N bl : Nat} {v : Int} {A : Option Addr} {n c l : Nat} {v3 : Value} {W W' : World} (h : AsVar N bl v A n c l v3 W) (hbl : bl < N) (hg : Below (N + 1 + 1 + 1) W W') : AsVar N bl v A n c l v3 W' := by
  obtain ⟨⟨a1, a2, a3⟩, ⟨b1, b2, b3, b4⟩, c1, c2, c3⟩ := h
  have hC : ∀ b o, b ≤ N + 1 + 1 → W'.cell? ⟨b, o, none⟩ = W.cell? ⟨b, o, none⟩ := fun b o h2 => hg.cell (p := ⟨b, o, none⟩) (show b < _ by omega)
  have hF : ∀ b o, b ≤ N + 1 + 1 → W'.frozen? ⟨b, o, none⟩ = W.frozen? ⟨b, o, none⟩ := fun b o h2 => hg.frozen (p := ⟨b, o, none⟩) (show b < _ by omega)
  exact ⟨⟨(hC _ _ (by omega)).trans a1, (hC _ _ (by omega)).trans a2, (hF _ _ (by omega)).trans a3⟩, ⟨(hC _ _ (by omega)).trans b1, (hC _ _ (by omega)).trans b2, (hF _ _ (by omega)).trans b3, (hF _ _ (by omega)).trans b4⟩,
    (hC _ _ (by omega)).trans c1, (hC _ _ (by omega)).trans c2, (hF _ _ (by omega)).trans c3⟩
theorem AsVar.store {N bl : Nat} {v : Int} {A : Option Addr} {n c l : Nat} {v3 v4 : Value} {W : World} (h : AsVar N bl v A n c l v3 W) (hbl : bl < N) : AsVar N bl v A n c l v4 (W.setCell ⟨N + 1 + 1, 1, none⟩ v4) := by
  obtain ⟨⟨a1, a2, a3⟩, ⟨b1, b2, b3, b4⟩, c1, c2, c3⟩ := h
  have hC : ∀ b o, (b ≠ N + 1 + 1 ∨ o ≠ 1) → (W.setCell ⟨N + 1 + 1, 1, none⟩ v4).cell? ⟨b, o, none⟩ = W.cell? ⟨b, o, none⟩ := fun b o hne =>
    World.cell?_setCell_other _ _ _ _ (fun e => by injection e with e1 e2 _; rcases hne with h | h <;> omega)
  refine ⟨⟨(hC _ _ (.inl (by omega))).trans a1, (hC _ _ (.inl (by omega))).trans a2, by rw [World.frozen?_setCell]; exact a3⟩, ⟨(hC _ _ (.inl (by omega))).trans b1, (hC _ _ (.inl (by omega))).trans b2, by rw [World.frozen?_setCell]; exact b3, by rw [World.frozen?_setCell]; exact b4⟩,
    (hC _ _ (.inr (by omega))).trans c1, World.cell?_setCell_same' _ _ _ (by rw [c2]; rfl), by rw [World.frozen?_setCell]; exact c3⟩
theorem new_two (W : World) (x : Int) (u : Value) (t : TypeId) : ((W.alloc (.cells #[.int .i64 x, u] t)).cell? ⟨W.heap.size, 0, none⟩ = some (.int .i64 x) ∧ (W.alloc (.cells #[.int .i64 x, u] t)).cell? ⟨W.heap.size, 1, none⟩ = some u) ∧
    (W.alloc (.cells #[.int .i64 x, u] t)).frozen? ⟨W.heap.size, 0, none⟩ = false ∧ (W.alloc (.cells #[.int .i64 x, u] t)).frozen? ⟨W.heap.size, 1, none⟩ = false := ⟨⟨by simp, by simp⟩, by simp, by simp⟩
theorem app_nil : ∀ a : Fo, a.app .nil = a
  | .nil => rfl
  | .cons v ks r => by simp only [Fo.app, app_nil r]
theorem AsVar.out0 {W : World} {N : Nat} {v : Int} {u v3 : Value} (h : W.cell? ⟨N, 0, none⟩ = some u) : ((W.setCell ⟨N, 0, none⟩ (.int .i64 v)).setCell ⟨N, 1, none⟩ v3).cell? ⟨N, 0, none⟩ = some (.int .i64 v) := by
  rw [World.cell?_setCell_other _ _ _ _ (fun e => by injection e with _ e2 _; omega)]
  exact World.cell?_setCell_same' _ _ _ (by rw [h]; rfl)
theorem AsVar.out1 {W : World} {N : Nat} {v : Int} {u v3 : Value} (h : W.cell? ⟨N, 1, none⟩ = some u) : ((W.setCell ⟨N, 0, none⟩ (.int .i64 v)).setCell ⟨N, 1, none⟩ v3).cell? ⟨N, 1, none⟩ = some v3 := by
  refine World.cell?_setCell_same' _ _ _ ?_
  rw [World.cell?_setCell_other _ _ _ _ (fun e => by injection e with _ e2 _; omega), h]
  rfl
theorem app_cons (v : Int) (kt : Fo) : ∀ a r : Fo, (a.app (.cons v kt .nil)).app r = a.app (.cons v kt r)
  | .nil, _ => rfl
  | .cons w ks q, r => by simp only [Fo.app, app_cons v kt q r]
theorem trunc_succ (v : Int) (ks r : Fo) (m : Nat) : (Fo.cons v ks r).trunc (m + 1) = (.cons v (ks.trunc m).1 (r.trunc (ks.trunc m).2).1, (r.trunc (ks.trunc m).2).2) := by simp [Fo.trunc]
theorem grown_set {W W' : World} {bl N : Nat} (h : W.grownBy W' (some bl)) (hN : W.heap.size ≤ N) (o : Nat) (u : Value) : W.grownBy (W'.setCell ⟨N, o, none⟩ u) (some bl) := by
  have hb := (Below.refl N W').setCell (p := ⟨N, o, none⟩) (Nat.le_refl _) u
  exact ⟨hb.os.trans h.os, hb.tape.trans h.tape, hb.output.trans h.output, Nat.le_trans h.size hb.size, fun i hi hne => (hb.block i (by omega)).trans (h.block i hi hne)⟩
theorem grown_below {W W' W2 : World} {bl N : Nat} (h : W.grownBy W' (some bl)) (hN : W.heap.size ≤ N) (hb : Below N W' W2) : W.grownBy W2 (some bl) :=
  ⟨hb.os.trans h.os, hb.tape.trans h.tape, hb.output.trans h.output, Nat.le_trans h.size hb.size, fun i hi hne => (hb.block i (by omega)).trans (h.block i hi hne)⟩
theorem grown_trans {W W' W2 : World} {bl : Nat} (h : W.grownBy W' (some bl)) (hb : W'.grownBy W2 (some bl)) : W.grownBy W2 (some bl) :=
  ⟨hb.os.trans h.os, hb.tape.trans h.tape, hb.output.trans h.output, Nat.le_trans h.size hb.size, fun i hi hne => (hb.block i (Nat.lt_of_lt_of_le hi h.size) hne).trans (h.block i hi hne)⟩
theorem OwnKids.below {w w' : World} {base : Nat} {v : Value} {ks : Fo} {xs : List Value} (h : OwnKids w base v ks xs) {N : Nat} (hN : N < base) (o : Nat) (u : Value) (hw : w' = w.setCell ⟨N, o, none⟩ u) : OwnKids w' base v ks xs := by
  subst hw
  refine ⟨ownsRow_setCell_below h.1 (show N < base from hN) _, h.2.keep fun b hb => ⟨⟨hb.1, by simpa using hb.2.1, hb.2.2⟩, fun o' => ?_⟩⟩
  exact World.cell?_setCell_other _ _ _ _ (fun e => by injection e with e1 _ _; have := hb.1; omega)

set_option maxRecDepth 100000 in
set_option maxHeartbeats 4000000 in
theorem as_any : ∀ (s : Nat) (v : Int) (ks : Fo) (A : Option Addr) (c B bl l : Nat) (w : World), ks.size < s → l < 200 → ks.len ≤ c → c ≤ maxLen → KidsAt w B A 0 ks → B ≤ bl → bl < w.heap.size →
    w.cell? ⟨bl, 0, none⟩ = some (.int .i64 ((l : Int) + 1)) → w.frozen? ⟨bl, 0, none⟩ = false →
    Calls Try.prog 20 #[.agg #[.int .i64 v, .slice A ks.len c], .pointer (some ⟨bl, 0, none⟩)] w fun e w' =>
      ∃ A' c', e = .returned (.agg #[.int .i64 v, .slice A' (ks.trunc l).1.len c']) ∧ (ks.trunc l).1.len ≤ c' ∧ c' ≤ maxLen ∧ KidsP w' (fun b => w.heap.size ≤ b ∧ b < w'.heap.size) A' 0 (ks.trunc l).1 ∧
        w'.cell? ⟨bl, 0, none⟩ = some (.int .i64 ((ks.trunc l).2 : Nat)) ∧ w'.frozen? ⟨bl, 0, none⟩ = false ∧ w.grownBy w' (some bl) := by
  intro s
  induction s with
  | zero => intro v ks A c B bl l w hs; omega
  | succ s ih =>
    intro v ks A c B bl l w hs hl2 hl hc hk hB hbl h0 hz0
    obtain ⟨w1, hw1⟩ : ∃ w1, w.alloc (.cells #[.int .i64 v, .slice A ks.len c] 24) = w1 := ⟨_, rfl⟩
    obtain ⟨w2, hw2⟩ : ∃ w2, w1.alloc (.cells #[.int .i64 0, .slice none 0 0] 44) = w2 := ⟨_, rfl⟩
    obtain ⟨w3, hw3⟩ : ∃ w3, w2.alloc (.cells #[.int .i64 v, .slice none 0 0] 44) = w3 := ⟨_, rfl⟩
    have z1 : w1.heap.size = w.heap.size + 1 := by rw [← hw1]; simp
    have z2 : w2.heap.size = w.heap.size + 1 + 1 := by rw [← hw2]; simp [z1]
    have z3 : w3.heap.size = w.heap.size + 1 + 1 + 1 := by rw [← hw3]; simp [z2]
    have b1 : Below w.heap.size w w1 := hw1 ▸ below_alloc (Below.refl _ _) _
    have b2 : Below w1.heap.size w1 w2 := hw2 ▸ below_alloc (Below.refl _ _) _
    have b3 : Below w2.heap.size w2 w3 := hw3 ▸ below_alloc (Below.refl _ _) _
    have hBw : Below w.heap.size w w3 := b1.trans ((b2.mono (by omega)).trans (b3.mono (by omega)))
    have n1 := new_two w v (.slice A ks.len c) 24
    have n2 := new_two w1 0 (.slice none 0 0) 44
    have n3 := new_two w2 v (.slice none 0 0) 44
    rw [hw1] at n1; rw [hw2, z1] at n2; rw [hw3, z2] at n3
    have hV0 : AsVar w.heap.size bl v A ks.len c (l + 1) (.slice none 0 0) w3 := by
      refine ⟨⟨b3.cellOf (by omega) (b2.cellOf (by omega) n1.1.2), hBw.cellOf hbl (by rw [h0]; rfl), (hBw.frozen (p := ⟨bl, 0, none⟩) hbl).trans hz0⟩, ⟨b3.cellOf (by omega) n2.1.1, b3.cellOf (by omega) n2.1.2, (b3.frozen (p := ⟨w.heap.size + 1, 0, none⟩) (show w.heap.size + 1 < _ by omega)).trans n2.2.1, (b3.frozen (p := ⟨w.heap.size + 1, 1, none⟩) (show w.heap.size + 1 < _ by omega)).trans n2.2.2⟩, n3.1.1, n3.1.2, n3.2.2⟩
    have g0 : w3.cell? ⟨bl, 0, none⟩ = some (.int .i64 ((l : Int) + 1)) := hV0.1.2.1
    have g1 := hV0.1.2.2
    have g2 := b2.cellOf (by omega) n1.1.1
    rw [← hw3] at g0 g1
    have hV1 : AsVar w.heap.size bl v A ks.len c l (.slice none 0 0) (w3.setCell ⟨bl, 0, none⟩ (.int .i64 (l : Int))) := by
      obtain ⟨⟨p1, p2, p3⟩, ⟨q1, q2, q3, q4⟩, r1, r2, r3⟩ := hV0
      have hC : ∀ b o, b ≠ bl → (w3.setCell ⟨bl, 0, none⟩ (.int .i64 (l : Int))).cell? ⟨b, o, none⟩ = w3.cell? ⟨b, o, none⟩ := fun b o hne =>
        World.cell?_setCell_other _ _ _ _ (fun e => by injection e with e1 e2 _; omega)
      refine ⟨⟨(hC _ _ (by omega)).trans p1, World.cell?_setCell_same' _ _ _ (by rw [p2]; rfl), by rw [World.frozen?_setCell]; exact p3⟩, ⟨(hC _ _ (by omega)).trans q1, (hC _ _ (by omega)).trans q2, by rw [World.frozen?_setCell]; exact q3, by rw [World.frozen?_setCell]; exact q4⟩, (hC _ _ (by omega)).trans r1, (hC _ _ (by omega)).trans r2, by rw [World.frozen?_setCell]; exact r3⟩
    have hG1 : w.grownBy (w3.setCell ⟨bl, 0, none⟩ (.int .i64 (l : Int))) (some bl) := by
      have hb := (Below.refl bl w3).setCell (p := ⟨bl, 0, none⟩) (Nat.le_refl _) (.int .i64 (l : Int))
      refine ⟨hBw.os, hBw.tape, hBw.output, Nat.le_trans hBw.size hb.size, fun i hi hne => ?_⟩
      rw [← hBw.block i hi]
      exact Below.heap_setCell _ _ _ _ (fun e => hne (by rw [e]))
    have hsz1 : w.heap.size + 1 + 1 + 1 ≤ (w3.setCell ⟨bl, 0, none⟩ (.int .i64 (l : Int))).heap.size := by simp [z3]
    have HV1 := Lib.hid hV1; have HG1 := Lib.hid hG1; have HS1 := Lib.hid hsz1
    clear hV0 hV1 hG1 hsz1 n1 n2 n3 b1 b2 b3 hBw h0 hz0
    have HW3 := Lib.hid hw3
    clear hw3
    go_enter Try.func20, Try.ntmps20
    go_wp2_with fail
    rw [HW3.out]
    clear hw1 hw2 g0 g1 g2
    generalize w3.setCell ⟨bl, 0, none⟩ (.int .i64 (l : Int)) = w4 at *
    go_loopw [6, 7] (fun i _ wr => ∃ (k m : Nat) (rest kd : Fo) (v3 : Value) (xs : List Value), i = .int .i64 k ∧ AsVar w.heap.size bl v A ks.len c m v3 wr ∧ OwnKids wr (w.heap.size + 1 + 1 + 1) v3 kd xs ∧
        KidsAt w B A k rest ∧ k + rest.len = ks.len ∧ rest.size ≤ ks.size ∧ kd.app (rest.trunc m).1 = (ks.trunc l).1 ∧ (rest.trunc m).2 = (ks.trunc l).2 ∧ w.grownBy wr (some bl) ∧ w.heap.size + 1 + 1 + 1 ≤ wr.heap.size) (fun i _ _ => ks.len - (intOf i).toNat)
    case atStart => exact ⟨0, l, ks, .nil, _, [], rfl, HV1.out, OwnKids.nil _ _, hk, by omega, Nat.le_refl _, rfl, rfl, HG1.out, HS1.out⟩
    case round =>
      clear HV1 HG1 HS1 HW3 z1 z2 z3
      obtain ⟨k, m, rest, kd, v3, xs, rfl, hV, hO, hka, hkl, hrs, htr, htl, hG, hsz⟩ := hrel
      have f1 := hV.1.1
      have f2 := hV.1.2.1
      have done : (rest.trunc m).1 = .nil → (rest.trunc m).2 = m → ∃ A3 c3, v3 = .slice A3 (ks.trunc l).1.len c3 ∧ (ks.trunc l).1.len ≤ c3 ∧ c3 ≤ maxLen ∧ KidsP wr (fun b => w.heap.size + 1 + 1 + 1 ≤ b ∧ b < wr.heap.size) A3 0 (ks.trunc l).1 ∧ m = (ks.trunc l).2 := fun e1 e2 => by
        obtain ⟨A3, c3, e3, h1, h2, h3⟩ := hO.kids
        rw [e1, app_nil] at htr
        rw [htr] at e3 h1 h3
        exact ⟨A3, c3, e3, h1, h2, h3, by rw [← htl, e2]⟩
      have fin : ∀ A3 c3, v3 = .slice A3 (ks.trunc l).1.len c3 → KidsP wr (fun b => w.heap.size + 1 + 1 + 1 ≤ b ∧ b < wr.heap.size) A3 0 (ks.trunc l).1 → m = (ks.trunc l).2 →
          KidsP ((wr.setCell ⟨w.heap.size + 1, 0, none⟩ (.int .i64 v)).setCell ⟨w.heap.size + 1, 1, none⟩ v3) (fun b => w.heap.size ≤ b ∧ b < ((wr.setCell ⟨w.heap.size + 1, 0, none⟩ (.int .i64 v)).setCell ⟨w.heap.size + 1, 1, none⟩ v3).heap.size) A3 0 (ks.trunc l).1 ∧
          ((wr.setCell ⟨w.heap.size + 1, 0, none⟩ (.int .i64 v)).setCell ⟨w.heap.size + 1, 1, none⟩ v3).cell? ⟨bl, 0, none⟩ = some (.int .i64 ((ks.trunc l).2 : Nat)) ∧
          ((wr.setCell ⟨w.heap.size + 1, 0, none⟩ (.int .i64 v)).setCell ⟨w.heap.size + 1, 1, none⟩ v3).frozen? ⟨bl, 0, none⟩ = false ∧ w.grownBy ((wr.setCell ⟨w.heap.size + 1, 0, none⟩ (.int .i64 v)).setCell ⟨w.heap.size + 1, 1, none⟩ v3) (some bl) := fun A3 c3 _ hk3 hm => by
        have hb : Below (w.heap.size + 1) wr ((wr.setCell ⟨w.heap.size + 1, 0, none⟩ (.int .i64 v)).setCell ⟨w.heap.size + 1, 1, none⟩ v3) := ((Below.refl _ wr).setCell (p := ⟨w.heap.size + 1, 0, none⟩) (Nat.le_refl _) _).setCell (p := ⟨w.heap.size + 1, 1, none⟩) (Nat.le_refl _) _
        refine ⟨hk3.keep fun b hb2 => ⟨⟨by omega, Nat.lt_of_lt_of_le hb2.2 hb.size⟩, fun o => ?_⟩, hb.cellOf (by omega) (by rw [← hm]; exact f2), (hb.frozen (p := ⟨bl, 0, none⟩) (show bl < _ by omega)).trans hV.1.2.2, grown_below hG (by omega) hb⟩
        rw [World.cell?_setCell_other _ _ _ _ (fun e => by injection e with e1 _ _; omega), World.cell?_setCell_other _ _ _ _ (fun e => by injection e with e1 _ _; omega)]
      have HD := Lib.hid done; have HF := Lib.hid fin; have HV := Lib.hid hV; have HO := Lib.hid hO; have HTR := Lib.hid htr; have HTL := Lib.hid htl; have HG := Lib.hid hG
      clear done fin hO htr htl hG
      obtain ⟨-, ⟨q1, q2, q3, q4⟩, r1, r2, r3⟩ := hV
      cases rest with
      | nil =>
        have hkl' : k = ks.len := by simpa [Fo.len] using hkl
        have hge : ¬ k < ks.len := by omega
        obtain ⟨A3, c3, rfl, h1, h2, h3, h4⟩ := HD.out rfl rfl
        have H5 := Lib.hid (HF.out A3 c3 rfl h3 h4)
        have H1 := Lib.hid h1
        clear HD HF HO HTR HTL HV hkl hkl' h1 h3 h4 hrs hka
        go_wp2
        refine bodyPost_ret (v := .agg #[.int .i64 v, .slice A3 (ks.trunc l).1.len c3]) ?_ rfl ⟨A3, c3, rfl, H1.out, h2, H5.out⟩
        have e0 := AsVar.out0 (v := v) (v3 := .slice A3 (ks.trunc l).1.len c3) q1
        have e1 := AsVar.out1 (v := v) (v3 := .slice A3 (ks.trunc l).1.len c3) q2
        simp [results, Try.results20, go_sem, e0, e1]
      | cons v' ks' r =>
        obtain ⟨b', off', c', A', rfl, hb', hx0, hx1, hl', hc', hk'⟩ := hka.head2
        simp only [Fo.len, Fo.size] at hkl hrs
        have hlt : k < ks.len := by omega
        by_cases hm0 : m = 0
        · subst hm0
          obtain ⟨A3, c3, rfl, h1, h2, h3, h4⟩ := HD.out rfl rfl
          have H5 := Lib.hid (HF.out A3 c3 rfl h3 h4)
          have H1 := Lib.hid h1
          clear HD HF HO HTR HTL HV hkl h1 h3 h4 hrs hka hx0 hx1 hk'
          go_wp2
          refine bodyPost_ret (v := .agg #[.int .i64 v, .slice A3 (ks.trunc l).1.len c3]) ?_ rfl ⟨A3, c3, rfl, H1.out, h2, H5.out⟩
          have e0 := AsVar.out0 (v := v) (v3 := .slice A3 (ks.trunc l).1.len c3) q1
          have e1 := AsVar.out1 (v := v) (v3 := .slice A3 (ks.trunc l).1.len c3) q2
          simp [results, Try.results20, go_sem, e0, e1]
        · obtain ⟨m', rfl⟩ : ∃ m', m = m' + 1 := ⟨m - 1, by omega⟩
          have hG := HG.out
          have hr0 : wr.cell? ⟨b', off' + k * 2, none⟩ = some (.int .i64 v') := hG.cell hx0 (by simp; omega)
          have hr1 : wr.cell? ⟨b', off' + k * 2 + 1, none⟩ = some (.slice A' ks'.len c') := hG.cell hx1 (by simp; omega)
          have hsum : kd.size + (m' + 1) = l := by
            have h1 := trunc_sum (.cons v' ks' r) (m' + 1)
            have h2 := trunc_sum ks l
            have h3 := congrArg Fo.size HTR.out
            have h4 := HTL.out
            rw [size_app] at h3
            omega
          have hkd := len_le_size kd
          have hIH := ih v' ks' A' c' B bl m' wr (by omega) (by omega) hl' hc' (hk'.keep (Nat.le_refl _) fun b o hb => World.cell?_of_block (a := ⟨b, o, none⟩) (hG.block b (by omega) (by simp; omega))) hB (by omega) f2 HV.out.1.2.2
          have hkb : (k : Int) < 9223372036854775807 := by unfold maxLen at hc; omega
          have hmp : (0 : Int) < ((m' + 1 : Nat) : Int) := by omega
          have hNw : w.heap.size + 1 + 1 < wr.heap.size := by omega
          have htr := HTR.out
          have htl := HTL.out
          rw [trunc_succ] at htr htl
          have HI := Lib.hid hIH; have HKL := Lib.hid hkl; have HRS := Lib.hid hrs; have HKA := Lib.hid hka.2; have HT1 := Lib.hid htr; have HT2 := Lib.hid htl; have HKD := Lib.hid hkd; have HSU := Lib.hid hsum
          clear hIH hkl hrs hka hx0 hx1 hk' htr htl hkd hsum HD HF HTR HTL hG q1 q2 q3 q4 hm0
          go_wp2_with fail
          refine HI.out.mono ?_
          rintro e w1 ⟨A2, c2, rfl, hh1, hh2, hkp, hcl, hfz, hg1⟩
          generalize (ks'.trunc m').1 = kt at *
          generalize (ks'.trunc m').2 = m2 at *
          have hs1 := hg1.size
          have hV1 := HV.out.grown hbl hNw hg1 hcl hfz
          have hO1 := HO.out.kept hg1 (fun g e => by injection e with e; omega)
          have hown := fun g (e : v3.ownBlock = some g) => (HO.out.1.lt g e).2
          have hbK := below_alloc (Below.refl _ w1) (.cells #[.int .i64 v', .slice A2 kt.len c2] 44)
          have hbT := below_alloc (Below.refl _ (w1.alloc (.cells #[.int .i64 v', .slice A2 kt.len c2] 44))) (.cells #[.int .i64 v', .slice A2 kt.len c2] 44)
          have hsK : (w1.alloc (.cells #[.int .i64 v', .slice A2 kt.len c2] 44)).heap.size = w1.heap.size + 1 := by simp
          have hVK := hV1.below (by omega) (hbK.mono (show w.heap.size + 1 + 1 + 1 ≤ w1.heap.size by omega))
          have hVT := hVK.below (by omega) (hbT.mono (show w.heap.size + 1 + 1 + 1 ≤ (w1.alloc (.cells #[.int .i64 v', .slice A2 kt.len c2] 44)).heap.size by omega))
          have hOT := (hO1.alloc (.cells #[.int .i64 v', .slice A2 kt.len c2] 44)).alloc (.cells #[.int .i64 v', .slice A2 kt.len c2] 44)
          have hkT := hkp.keep (w' := (w1.alloc (.cells #[.int .i64 v', .slice A2 kt.len c2] 44)).alloc (.cells #[.int .i64 v', .slice A2 kt.len c2] 44)) (P' := fun b => w.heap.size + 1 + 1 + 1 ≤ b ∧ b < ((w1.alloc (.cells #[.int .i64 v', .slice A2 kt.len c2] 44)).alloc (.cells #[.int .i64 v', .slice A2 kt.len c2] 44)).heap.size ∧ v3.ownBlock ≠ some b)
            (fun b hb => ⟨⟨by omega, by have := hbT.size; omega, fun e => by have := hown b e; omega⟩, fun o => (hbT.cell (p := ⟨b, o, none⟩) (show b < _ by omega)).trans (hbK.cell (p := ⟨b, o, none⟩) hb.2)⟩)
          have hRT := reads_node (w1.alloc (.cells #[.int .i64 v', .slice A2 kt.len c2] 44)) v' A2 kt.len c2 44
          rw [hsK] at hRT
          have z1 := hVK.2.2.2.1
          have z2 := hVT.2.2.2.2
          have hsT : w.heap.size + 1 + 1 + 1 ≤ ((w1.alloc (.cells #[.int .i64 v', .slice A2 kt.len c2] 44)).alloc (.cells #[.int .i64 v', .slice A2 kt.len c2] 44)).heap.size := by have := hbT.size; omega
          have hgT := grown_below (grown_below (grown_trans HG.out hg1) (show w.heap.size ≤ w1.heap.size by omega) hbK) (by omega) hbT
          have HVT := Lib.hid hVT; have HOT := Lib.hid hOT; have HKT := Lib.hid hkT; have HRT := Lib.hid hRT; have HGT := Lib.hid hgT; have HST := Lib.hid hsT
          clear hV1 hO1 hown hbK hbT hVK hVT hOT hkT hRT hgT hsT hsK hkp hcl hfz hg1 HI HV HO HG f1 f2 r1 r2 r3 hr0 hr1 z2
          go_wp2_with (at_builtin; go_must (refine wpList_append_tree rfl _ _ rfl (w.heap.size + 1 + 1 + 1) v3 kd xs rfl HOT.out _ _ _ v' kt A2 c2 rfl HRT.out hh1 hh2 HKT.out (by have := HKD.out; have := HSU.out; omega) HST.out ?_; intro v4 w4 xs4 hown4 hb4; obtain ⟨A4, c4, rfl, -, -, -⟩ := hown4.kids; have hV4 := HVT.out.below (by omega) hb4; have y1 := hV4.2.2.2.1; have y2 := hV4.2.2.2.2))
          go_roundw
          case rel =>
            refine ⟨k + 1, m2, r, kd.app (.cons v' kt .nil), _, xs4, by go_num, hV4.store (by omega), hown4.below (show w.heap.size + 1 + 1 < _ by omega) _ _ rfl, HKA.out, by have := HKL.out; omega, by have := HRS.out; omega, ?_, HT2.out, ?_, ?_⟩
            · rw [app_cons]; exact HT1.out
            · exact grown_set (grown_below HGT.out (by omega) hb4) (by omega) _ _
            · have := hb4.size; have := HST.out; simp only [World.size_setCell]; omega
          case measure => simp [intOf]; omega
end Go.Proofs.Ytkafoeaffcbheaa
