/- The walk of the law TopChain. -/
import Derived.Test.YthfgnaplfglggaaTb
import Derived.Test.YthfgnaplfglggaaOm
import Derived.BigQuiet
import Derived.Deep.CutRange
import Derived.Deep.RegionLaw
import Derived.Deep.RegionHeld3
import Derived.WalkSmall
namespace Go.Proofs.Ythfgnaplfglggaa
open Go.RowKit
set_option linter.unusedVariables false
set_option linter.unusedSimpArgs false

/-- The four sides' names (block P; the first n are not nought), and what each remembers of each (block P + 1). -/
def Tab (n P : Nat) (w : World) : Prop :=
  (∀ a, a < 4 → ∃ x : Int, (a < n → x ≠ 0) ∧ w.cell? ⟨P, a, none⟩ = some (.int .u32 x) ∧ w.frozen? ⟨P, a, none⟩ = false) ∧
  (∀ j, j < 16 → ∃ x : Int, w.cell? ⟨P + 1, j, none⟩ = some (.int .u32 x) ∧ w.frozen? ⟨P + 1, j, none⟩ = false) ∧ P + 1 < w.heap.size
theorem Tab.below {n P B : Nat} {w w' : World} (h : Tab n P w) (hb : Below B w w') (hB : P + 2 ≤ B) : Tab n P w' :=
  ⟨fun a ha => by
    obtain ⟨x, h1, h2, h3⟩ := h.1 a ha
    exact ⟨x, h1, (hb.cell (p := ⟨P, a, none⟩) (show P < B by omega)).trans h2, (hb.frozen (p := ⟨P, a, none⟩) (show P < B by omega)).trans h3⟩,
   fun j hj => by
    obtain ⟨x, h2, h3⟩ := h.2.1 j hj
    exact ⟨x, (hb.cell (p := ⟨P + 1, j, none⟩) (show P + 1 < B by omega)).trans h2, (hb.frozen (p := ⟨P + 1, j, none⟩) (show P + 1 < B by omega)).trans h3⟩,
   Nat.lt_of_lt_of_le h.2.2 hb.size⟩
theorem Tab.setN {n n' P a : Nat} {w : World} {x : Int} (h : Tab n P w) (ha : a < 4) (hx : x ≠ 0) (hn : ∀ b, b < n' → b < n ∨ b = a) : Tab n' P (w.setCell ⟨P, a, none⟩ (.int .u32 x)) := by
  refine ⟨fun b hb => ?_, fun j hj => ?_, by simpa using h.2.2⟩
  · obtain ⟨y, h1, h2, h3⟩ := h.1 b hb
    by_cases e : b = a
    · subst e
      exact ⟨x, fun _ => hx, World.cell?_setCell_same' w _ _ (by rw [h2]; rfl), by rw [World.frozen?_setCell]; exact h3⟩
    · refine ⟨y, fun hlt => h1 ((hn b hlt).resolve_right e), ?_, by rw [World.frozen?_setCell]; exact h3⟩
      rw [World.cell?_setCell_other _ _ _ _ (fun e' => e (by injection e' with _ e2 _; exact e2.symm))]
      exact h2
  · obtain ⟨y, h2, h3⟩ := h.2.1 j hj
    refine ⟨y, ?_, by rw [World.frozen?_setCell]; exact h3⟩
    rw [World.cell?_setCell_other _ _ _ _ (fun e' => by injection e' with e1 _ _; omega)]
    exact h2
theorem Tab.setK {n P j : Nat} {w : World} {x : Int} (h : Tab n P w) (hj : j < 16) : Tab n P (w.setCell ⟨P + 1, j, none⟩ (.int .u32 x)) := by
  refine ⟨fun b hb => ?_, fun i hi => ?_, by simpa using h.2.2⟩
  · obtain ⟨y, h1, h2, h3⟩ := h.1 b hb
    refine ⟨y, h1, ?_, by rw [World.frozen?_setCell]; exact h3⟩
    rw [World.cell?_setCell_other _ _ _ _ (fun e' => by injection e' with e1 _ _; omega)]
    exact h2
  · obtain ⟨y, h2, h3⟩ := h.2.1 i hi
    by_cases e : i = j
    · subst e
      exact ⟨x, World.cell?_setCell_same' w _ _ (by rw [h2]; rfl), by rw [World.frozen?_setCell]; exact h3⟩
    · refine ⟨y, ?_, by rw [World.frozen?_setCell]; exact h3⟩
      rw [World.cell?_setCell_other _ _ _ _ (fun e' => e (by injection e' with _ e2 _; exact e2.symm))]
      exact h2
theorem Tab.drewN {n P : Nat} {w : World} (h : Tab n P w) (k : Nat) : Tab n P (w.drewN k) := h
theorem Tab.drew {n P : Nat} {w : World} (h : Tab n P w) : Tab n P w.drew := h

theorem new16 (W : World) (P : Nat) (hP : P = W.heap.size) (j : Nat) (hj : j < 16) :
    (W.alloc (.cells #[.int .u32 0, .int .u32 0, .int .u32 0, .int .u32 0, .int .u32 0, .int .u32 0, .int .u32 0, .int .u32 0, .int .u32 0, .int .u32 0, .int .u32 0, .int .u32 0, .int .u32 0, .int .u32 0, .int .u32 0, .int .u32 0] 43)).cell? ⟨P, j, none⟩ = some (.int .u32 0) ∧
    (W.alloc (.cells #[.int .u32 0, .int .u32 0, .int .u32 0, .int .u32 0, .int .u32 0, .int .u32 0, .int .u32 0, .int .u32 0, .int .u32 0, .int .u32 0, .int .u32 0, .int .u32 0, .int .u32 0, .int .u32 0, .int .u32 0, .int .u32 0] 43)).frozen? ⟨P, j, none⟩ = false := by
  subst hP
  have : j = 0 ∨ j = 1 ∨ j = 2 ∨ j = 3 ∨ j = 4 ∨ j = 5 ∨ j = 6 ∨ j = 7 ∨ j = 8 ∨ j = 9 ∨ j = 10 ∨ j = 11 ∨ j = 12 ∨ j = 13 ∨ j = 14 ∨ j = 15 := by omega
  rcases this with rfl | rfl | rfl | rfl | rfl | rfl | rfl | rfl | rfl | rfl | rfl | rfl | rfl | rfl | rfl | rfl <;> exact ⟨by simp, by simp⟩
theorem Tab.zero (w : World) : Tab 0 w.heap.size ((w.alloc (.cells #[.int .u32 0, .int .u32 0, .int .u32 0, .int .u32 0] 42)).alloc (.cells #[.int .u32 0, .int .u32 0, .int .u32 0, .int .u32 0, .int .u32 0, .int .u32 0, .int .u32 0, .int .u32 0, .int .u32 0, .int .u32 0, .int .u32 0, .int .u32 0, .int .u32 0, .int .u32 0, .int .u32 0, .int .u32 0] 43)) := by
  refine ⟨fun a ha => ⟨0, fun h => absurd h (by omega), ?_, ?_⟩, fun j hj => ⟨0, ?_, ?_⟩, by simp⟩
  · have : a = 0 ∨ a = 1 ∨ a = 2 ∨ a = 3 := by omega
    rcases this with rfl | rfl | rfl | rfl <;> simp
  · simp
  · exact (new16 _ _ (by simp) j hj).1
  · exact (new16 _ _ (by simp) j hj).2

theorem and3 (a : Int) : ∃ t : Nat, t < 4 ∧ bits .and .i64 a 3 = (t : Int) := by
  have h : (BitVec.ofInt 64 a &&& BitVec.ofInt 64 3).toNat ≤ 3 := by
    rw [BitVec.toNat_and]
    exact Nat.le_trans Nat.and_le_right (by decide)
  refine ⟨(BitVec.ofInt 64 a &&& BitVec.ofInt 64 3).toNat, by omega, ?_⟩
  show IntKind.i64.wrap ((BitVec.ofInt 64 a &&& BitVec.ofInt 64 3).toNat : Int) = _
  rw [IntKind.wrap_i64]
  omega

theorem join {wr W w3 : World} (hb3 : Below W.heap.size W w3) (hW : Below wr.heap.size wr W) : Below wr.heap.size wr w3 := hW.trans (hb3.mono hW.size)
theorem cellOf {B : Nat} {w w' : World} (h : Below B w w') {b o : Nat} {u : Value} (hb : b < B) (hc : w.cell? ⟨b, o, none⟩ = some u) : w'.cell? ⟨b, o, none⟩ = some u := (h.cell (p := ⟨b, o, none⟩) hb).trans hc
theorem frozenOf {B : Nat} {w w' : World} (h : Below B w w') {b o : Nat} (hb : b < B) (hc : w.frozen? ⟨b, o, none⟩ = false) : w'.frozen? ⟨b, o, none⟩ = false := (h.frozen (p := ⟨b, o, none⟩) hb).trans hc
theorem MeetsAt.below {B : Nat} {A : Option Addr} {n : Nat} {w w' : World} (hb : Below B w w') (h : MeetsAt w B A n) : MeetsAt w' B A n := fun hp => by
  obtain ⟨b, off, e, hlt, hc⟩ := h hp
  refine ⟨b, off, e, hlt, fun i hi => ?_⟩
  obtain ⟨k, x, y, h0, h1, h2⟩ := hc i hi
  exact ⟨k, x, y, (hb.cell (p := ⟨b, _, none⟩) hlt).trans h0, (hb.cell (p := ⟨b, _, none⟩) hlt).trans h1, (hb.cell (p := ⟨b, _, none⟩) hlt).trans h2⟩

theorem at_new (W : World) (a b : Int) (k : Bool) (P : Nat) (hP : P = W.heap.size) : (W.alloc (.cells #[.int .u32 a, .int .u32 b, .bool k] 34)).cell? ⟨P, 1, none⟩ = some (.int .u32 b) := by subst hP; simp
theorem under_alloc {W : World} {o : Obj} {P i : Nat} {u : Value} (hP : P < W.heap.size) (h : W.cell? ⟨P, i, none⟩ = some u) : (W.alloc o).cell? ⟨P, i, none⟩ = some u := (World.cell?_alloc_lt W o ⟨P, i, none⟩ hP).trans h
theorem under_drew {W : World} {p : Addr} {u : Value} (h : W.cell? p = some u) : W.drew.cell? p = some u := h
theorem under_set {W : World} {P i Q k : Nat} {u v : Value} (hne : ¬ (Q = P ∧ k = i)) (h : W.cell? ⟨P, i, none⟩ = some u) : (W.setCell ⟨Q, k, none⟩ v).cell? ⟨P, i, none⟩ = some u := by
  rw [World.cell?_setCell_other _ _ _ _ (fun e => hne (by injection e with e1 e2 _; exact ⟨e1, e2⟩))]
  exact h

theorem side_new (V : World) (P : Nat) (hP : P = V.heap.size) :
    ((V.alloc (.cells #[.int .u32 0, .int .u32 0, .bool false] 34)).cell? ⟨P, 0, none⟩ = some (.int .u32 0) ∧ (V.alloc (.cells #[.int .u32 0, .int .u32 0, .bool false] 34)).cell? ⟨P, 1, none⟩ = some (.int .u32 0) ∧ (V.alloc (.cells #[.int .u32 0, .int .u32 0, .bool false] 34)).cell? ⟨P, 2, none⟩ = some (.bool false)) ∧
    ((V.alloc (.cells #[.int .u32 0, .int .u32 0, .bool false] 34)).frozen? ⟨P, 0, none⟩ = false ∧ (V.alloc (.cells #[.int .u32 0, .int .u32 0, .bool false] 34)).frozen? ⟨P, 1, none⟩ = false ∧ (V.alloc (.cells #[.int .u32 0, .int .u32 0, .bool false] 34)).frozen? ⟨P, 2, none⟩ = false) := by
  subst hP
  exact ⟨⟨by simp, by simp, by simp⟩, by simp, by simp, by simp⟩
theorem two_kept {wr W w3 : World} (hW : W.heap = ((wr.alloc (.cells #[.int .u32 0, .int .u32 0, .bool false] 34)).alloc (.cells #[.int .u32 0, .int .u32 0, .bool false] 34)).heap) (hb3 : Below W.heap.size W w3) :
    ((w3.cell? ⟨wr.heap.size, 0, none⟩ = some (.int .u32 0) ∧ w3.cell? ⟨wr.heap.size, 1, none⟩ = some (.int .u32 0) ∧ w3.cell? ⟨wr.heap.size, 2, none⟩ = some (.bool false)) ∧
    (w3.frozen? ⟨wr.heap.size, 0, none⟩ = false ∧ w3.frozen? ⟨wr.heap.size, 1, none⟩ = false ∧ w3.frozen? ⟨wr.heap.size, 2, none⟩ = false)) ∧
    ((w3.cell? ⟨wr.heap.size + 1, 0, none⟩ = some (.int .u32 0) ∧ w3.cell? ⟨wr.heap.size + 1, 1, none⟩ = some (.int .u32 0) ∧ w3.cell? ⟨wr.heap.size + 1, 2, none⟩ = some (.bool false)) ∧
    (w3.frozen? ⟨wr.heap.size + 1, 0, none⟩ = false ∧ w3.frozen? ⟨wr.heap.size + 1, 1, none⟩ = false ∧ w3.frozen? ⟨wr.heap.size + 1, 2, none⟩ = false)) := by
  have hz : wr.heap.size + 1 = (wr.alloc (.cells #[.int .u32 0, .int .u32 0, .bool false] 34)).heap.size := by simp
  have hs : W.heap.size = wr.heap.size + 2 := by rw [hW]; simp
  have hbk : ∀ k, k < wr.heap.size + 2 → w3.heap[k]? = ((wr.alloc (.cells #[.int .u32 0, .int .u32 0, .bool false] 34)).alloc (.cells #[.int .u32 0, .int .u32 0, .bool false] 34)).heap[k]? := fun k hk => by rw [← hW]; exact hb3.block k (by omega)
  have cellOf2 : ∀ {b o : Nat} {u : Value}, b < wr.heap.size + 2 → ((wr.alloc (.cells #[.int .u32 0, .int .u32 0, .bool false] 34)).alloc (.cells #[.int .u32 0, .int .u32 0, .bool false] 34)).cell? ⟨b, o, none⟩ = some u → w3.cell? ⟨b, o, none⟩ = some u := fun {b o u} h1 h2 => (World.cell?_of_block (w := (wr.alloc (.cells #[.int .u32 0, .int .u32 0, .bool false] 34)).alloc (.cells #[.int .u32 0, .int .u32 0, .bool false] 34)) (hbk b h1)).trans h2
  have frozenOf2 : ∀ {b o : Nat}, b < wr.heap.size + 2 → ((wr.alloc (.cells #[.int .u32 0, .int .u32 0, .bool false] 34)).alloc (.cells #[.int .u32 0, .int .u32 0, .bool false] 34)).frozen? ⟨b, o, none⟩ = false → w3.frozen? ⟨b, o, none⟩ = false := fun {b o} h1 h2 => (World.frozen?_of_block (w := (wr.alloc (.cells #[.int .u32 0, .int .u32 0, .bool false] 34)).alloc (.cells #[.int .u32 0, .int .u32 0, .bool false] 34)) (hbk b h1)).trans h2
  have hY := side_new (wr.alloc (.cells #[.int .u32 0, .int .u32 0, .bool false] 34)) (wr.heap.size + 1) hz
  have hX := side_new wr wr.heap.size rfl
  have hk := below_alloc (Below.refl _ (wr.alloc (.cells #[.int .u32 0, .int .u32 0, .bool false] 34))) (.cells #[.int .u32 0, .int .u32 0, .bool false] 34)
  rw [← hz] at hk
  refine ⟨⟨⟨?_, ?_, ?_⟩, ?_, ?_, ?_⟩, ⟨?_, ?_, ?_⟩, ?_, ?_, ?_⟩
  · exact cellOf2 (by omega) (cellOf hk (by omega) hX.1.1)
  · exact cellOf2 (by omega) (cellOf hk (by omega) hX.1.2.1)
  · exact cellOf2 (by omega) (cellOf hk (by omega) hX.1.2.2)
  · exact frozenOf2 (by omega) (frozenOf hk (by omega) hX.2.1)
  · exact frozenOf2 (by omega) (frozenOf hk (by omega) hX.2.2.1)
  · exact frozenOf2 (by omega) (frozenOf hk (by omega) hX.2.2.2)
  · exact cellOf2 (by omega) hY.1.1
  · exact cellOf2 (by omega) hY.1.2.1
  · exact cellOf2 (by omega) hY.1.2.2
  · exact frozenOf2 (by omega) hY.2.1
  · exact frozenOf2 (by omega) hY.2.2.1
  · exact frozenOf2 (by omega) hY.2.2.2

set_option maxRecDepth 100000 in
set_option maxHeartbeats 20000000 in
theorem walk_TopChain (A : Option Addr) (xs : List Nat) (c : Nat) (w : World) (hl : xs.length ≤ c) (hc : c ≤ maxLen) (hk : MeetsAt w w.heap.size A xs.length) :
    Calls Try.prog 9 #[.slice A xs.length c] w fun e w' => e = .returned (.bool true) ∧ Below w.heap.size w w' := by
  generalize xs.length = n at *
  have HK := Lib.hid hk
  clear hk
  go_enter Try.func9, Try.ntmps9
  go_wp2_with fail
  have hT0 := Tab.zero w
  have hB0 : Below w.heap.size w ((w.alloc (.cells #[.int .u32 0, .int .u32 0, .int .u32 0, .int .u32 0] 42)).alloc (.cells #[.int .u32 0, .int .u32 0, .int .u32 0, .int .u32 0, .int .u32 0, .int .u32 0, .int .u32 0, .int .u32 0, .int .u32 0, .int .u32 0, .int .u32 0, .int .u32 0, .int .u32 0, .int .u32 0, .int .u32 0, .int .u32 0] 43)) := below_alloc (below_alloc (Below.refl _ _) _) _
  generalize (w.alloc (.cells #[.int .u32 0, .int .u32 0, .int .u32 0, .int .u32 0] 42)).alloc (.cells #[.int .u32 0, .int .u32 0, .int .u32 0, .int .u32 0, .int .u32 0, .int .u32 0, .int .u32 0, .int .u32 0, .int .u32 0, .int .u32 0, .int .u32 0, .int .u32 0, .int .u32 0, .int .u32 0, .int .u32 0, .int .u32 0] 43) = W0 at *
  have HT0 := Lib.hid hT0; have HB0 := Lib.hid hB0
  clear hT0 hB0
  go_loopw [5] (fun i wr => ∃ j : Nat, i = .int .i64 (j : Int) ∧ j ≤ 4 ∧ Tab j w.heap.size wr ∧ Below w.heap.size w wr) (fun i wr => 4 - (intOf i).toNat)
  case atStart => exact ⟨0, rfl, Nat.zero_le _, HT0.out, HB0.out⟩
  case round =>
    obtain ⟨j, rfl, hj, hT, hB⟩ := hrel
    by_cases hlt : j < 4
    · obtain ⟨x, -, h1, h2⟩ := hT.1 j hlt
      have hj0 : (0 : Int) ≤ (j : Int) := by omega
      have hj4 : (j : Int) < 4 := by omega
      have HT := Lib.hid hT; have HB := Lib.hid hB
      clear hT hB
      have hj' : j = 0 ∨ j = 1 ∨ j = 2 ∨ j = 3 := by omega
      rcases hj' with rfl | rfl | rfl | rfl
      · go_wp2
        go_roundw
        case rel => exact ⟨1, rfl, by omega, HT.out.setN (by omega) (by decide) (fun b hb => by omega), HB.out.setCell (Nat.le_refl _) _⟩
        case measure => simp [intOf]
      · go_wp2
        go_roundw
        case rel => exact ⟨2, rfl, by omega, HT.out.setN (by omega) (by decide) (fun b hb => by omega), HB.out.setCell (Nat.le_refl _) _⟩
        case measure => simp [intOf]
      · go_wp2
        go_roundw
        case rel => exact ⟨3, rfl, by omega, HT.out.setN (by omega) (by decide) (fun b hb => by omega), HB.out.setCell (Nat.le_refl _) _⟩
        case measure => simp [intOf]
      · go_wp2
        go_roundw
        case rel => exact ⟨4, rfl, by omega, HT.out.setN (by omega) (by decide) (fun b hb => by omega), HB.out.setCell (Nat.le_refl _) _⟩
        case measure => simp [intOf]
    · have hj4 : ¬ (j : Int) < 4 := by omega
      have hjj : j = 4 := by omega
      have hT4 : Tab 4 w.heap.size wr := hjj ▸ hT
      have HT := Lib.hid hT4; have HB := Lib.hid hB
      clear hT hB HT0 HB0 hjj hT4 hlt hj
      generalize (j : Int) = jj at hj4 ⊢
      go_wp2_with fail
      generalize hP : w.heap.size = P at *
      go_loopw [6, 7, 8, 9, 10, 11, 12, 13] (fun nx i _ _ _ _ _ _ wr => ∃ j q : Nat, i = .int .i64 (j : Int) ∧ nx = .int .u32 (q : Int) ∧ 5 ≤ q ∧ q ≤ 5 + j ∧ j ≤ 200 ∧ Tab 4 P wr ∧ Below P w wr) (fun _ i _ _ _ _ _ _ wr => 200 - (intOf i).toNat)
      case atStart => exact ⟨0, 5, rfl, rfl, Nat.le_refl _, Nat.le_refl _, Nat.zero_le _, HT.out, HB.out⟩
      case round =>
        clear HT HB
        obtain ⟨j, q, rfl, rfl, hq5, hq, hj, hT, hB⟩ := hrel
        have HT := Lib.hid hT; have HB := Lib.hid hB
        clear hT hB
        by_cases hjn : j < n
        · have hjn' : (j : Int) < (n : Int) := by omega
          have hj0 : (0 : Int) ≤ (j : Int) := by omega
          by_cases hj2 : j < 200
          · have hj2' : (j : Int) < 200 := by omega
            obtain ⟨bb, off, rfl, hb, hcc⟩ := HK.out.below HB.out (by omega)
            obtain ⟨k, x, y, k0, k1, k2⟩ := hcc j hjn
            obtain ⟨ta, hta, hxa⟩ := and3 x
            obtain ⟨tb, htb, hyb⟩ := and3 y
            clear hcc
            have ha0 : (0 : Int) ≤ (ta : Int) := by omega
            have hb0 : (0 : Int) ≤ (tb : Int) := by omega
            have ha4 : (ta : Int) < 4 := by omega
            have hb4 : (tb : Int) < 4 := by omega
            by_cases hk1 : k = 1
            · subst hk1
              obtain ⟨y1, -, m1, m2⟩ := HT.out.1 ta hta
              obtain ⟨z0, n0, o0⟩ := HT.out.2.1 (ta * 4) (by omega)
              obtain ⟨z1, n1, o1⟩ := HT.out.2.1 (ta * 4 + 1) (by omega)
              obtain ⟨z2, n2, o2⟩ := HT.out.2.1 (ta * 4 + 2) (by omega)
              obtain ⟨z3, n3, o3⟩ := HT.out.2.1 (ta * 4 + 3) (by omega)
              have hqb : (q : Int) < 300 := by omega
              have hq0 : (0 : Int) ≤ (q : Int) := by omega
              have hne : ¬ (q : Int) = 0 := by omega
              go_wp2_with fail
              go_region
              all_goals go_wp2
              go_roundw
              case rel => exact ⟨j + 1, q + 1, by go_num, by go_num, by omega, by omega, by omega, (((((HT.out.setN hta hne (fun b hb => .inl hb)).setK (by omega)).setK (by omega)).setK (by omega)).setK (by omega)).drew, (((((HB.out.setCell (by simp) _).setCell (by simp) _).setCell (by simp) _).setCell (by simp) _).setCell (by simp) _).drew⟩
              case measure => simp [intOf]; omega
            · by_cases hk2 : k = 2
              · subst hk2
                obtain ⟨z0, n0, o0⟩ := HT.out.2.1 (ta * 4 + tb) (by omega)
                go_wp2_with fail
                go_region
                all_goals go_wp2
                go_roundw
                case rel => exact ⟨j + 1, q, by go_num, rfl, hq5, by omega, by omega, HT.out.drew.setK (by omega), HB.out.drew.setCell (by simp) _⟩
                case measure => simp [intOf]; omega
              · by_cases hk0 : k = 0
                · subst hk0
                  by_cases hab : ta = tb
                  · subst hab
                    go_wp2_with fail
                    go_region
                    all_goals go_wp2
                    go_roundw
                    case rel => exact ⟨j + 1, q, by go_num, rfl, hq5, by omega, by omega, HT.out, HB.out.drew⟩
                    case measure => simp [intOf]; omega
                  · have hab' : ¬ (ta : Int) = (tb : Int) := by omega
                    obtain ⟨m1, hm1, c1, -⟩ := HT.out.1 ta hta
                    obtain ⟨m2, hm2, c2, -⟩ := HT.out.1 tb htb
                    obtain ⟨s1, c3, z3⟩ := HT.out.2.1 (ta * 4 + tb) (by omega)
                    obtain ⟨s2, c4, z4⟩ := HT.out.2.1 (tb * 4 + ta) (by omega)
                    have hPw := HT.out.2.2
                    obtain ⟨F, r1, r2, xf, yf, hF, hFr, hA⟩ := after_exact (s := s1) (s' := s2) (hm1 hta) (hm2 htb)
                    have e1 := World.new_ne wr _ c1
                    have e2 := World.new_ne wr _ c2
                    have e3 := World.new_ne wr _ c3
                    have e4 := World.new_ne wr _ c4
                    have HA := Lib.hid hA; have HF := Lib.hid hF; have HFr := Lib.hid hFr
                    clear hA hF hFr hm1 hm2
                    go_wp2_with fail
                    go_region
                    all_goals (go_upto_region 15 with fail)
                    go_cut [10, 11, 12] from 23 to 163 (fun p10 p11 f wx => ∃ X Y, p10 = .pointer (some ⟨X, 0, none⟩) ∧ p11 = .pointer (some ⟨Y, 0, none⟩) ∧ f = .bool F ∧ wx.cell? ⟨X, 1, none⟩ = some (.int .u32 r1) ∧ wx.cell? ⟨Y, 1, none⟩ = some (.int .u32 r2) ∧ P + 1 < X ∧ P + 1 < Y ∧ Below (P + 2) wr wx)
                    case first =>
                      as_aux_lemma =>
                        go_region_held3 (fun w' => w'.cell? ⟨P, ta, none⟩ = some (.int .u32 m1) ∧ w'.cell? ⟨P, tb, none⟩ = some (.int .u32 m2) ∧ w'.cell? ⟨P + 1, ta * 4 + tb, none⟩ = some (.int .u32 s1) ∧ w'.cell? ⟨P + 1, tb * 4 + ta, none⟩ = some (.int .u32 s2))
                          (first | (exact ⟨cellOf (w := wr) (B := wr.heap.size) (by repeat (first | with_reducible exact Below.refl _ _ | with_reducible refine below_alloc ?_ _ | with_reducible refine below_drew ?_ | with_reducible refine Below.setCell ?_ (by first | exact Nat.le_refl _ | exact Nat.le_add_right _ _) _)) (Nat.lt_of_succ_lt hPw) c1, cellOf (w := wr) (B := wr.heap.size) (by repeat (first | with_reducible exact Below.refl _ _ | with_reducible refine below_alloc ?_ _ | with_reducible refine below_drew ?_ | with_reducible refine Below.setCell ?_ (by first | exact Nat.le_refl _ | exact Nat.le_add_right _ _) _)) (Nat.lt_of_succ_lt hPw) c2, cellOf (w := wr) (B := wr.heap.size) (by repeat (first | with_reducible exact Below.refl _ _ | with_reducible refine below_alloc ?_ _ | with_reducible refine below_drew ?_ | with_reducible refine Below.setCell ?_ (by first | exact Nat.le_refl _ | exact Nat.le_add_right _ _) _)) hPw c3, cellOf (w := wr) (B := wr.heap.size) (by repeat (first | with_reducible exact Below.refl _ _ | with_reducible refine below_alloc ?_ _ | with_reducible refine below_drew ?_ | with_reducible refine Below.setCell ?_ (by first | exact Nat.le_refl _ | exact Nat.le_add_right _ _) _)) hPw c4⟩) | go_keep)
                          (first | (go_at_call 17; refine (HA.out _).mono ?_; rintro e w3 ⟨rfl, rfl⟩; unfold afterW))
                        all_goals (go_wp2_with fail; go_meet)
                        all_goals refine ⟨_, _, rfl, rfl, rfl, ?_, ?_, (by omega), (by omega), Below.mono (B := wr.heap.size) (by repeat (first | with_reducible exact Below.refl _ _ | with_reducible refine below_alloc ?_ _ | with_reducible refine below_drew ?_ | with_reducible refine Below.setCell ?_ (by first | exact Nat.le_refl _ | exact Nat.le_add_right _ _) _)) (by omega)⟩
                        all_goals (repeat (first | (with_reducible refine at_new _ _ _ _ _ ?hp; (case hp => (simp; done))) | with_reducible refine under_drew ?_ | (with_reducible refine under_alloc ?hp ?_; (case hp => (first | (simp; done) | (simp; omega)))) | (with_reducible refine under_set ?hp ?_; (case hp => (simp; done)))))
                    case rest =>
                      as_aux_lemma =>
                        obtain ⟨X, Y, rfl, rfl, rfl, x1, y1, hX, hY, hbw⟩ := hcut
                        have d1 := cellOf hbw (by omega) c1
                        have d2 := cellOf hbw (by omega) c2
                        have d3 := cellOf hbw (by omega) c3
                        have d4 := cellOf hbw (by omega) c4
                        clear c1 c2 c3 c4 z3 z4 e1 e2 e3 e4 k0 k1 k2
                        have HBW := Lib.hid hbw
                        clear hbw HA
                        go_upto_region 16 with fail
                        go_cut [13] from 23 to 163 (fun f wx => f = .bool F ∧ Below wc.heap.size wc wx)
                        case first =>
                          as_aux_lemma =>
                            have hF := HF.out
                            cases h1 : (s1 == 0) <;> cases h2 : (s1 == m2) <;> cases h3 : (s2 == 0) <;> cases h4 : (s2 == m1)
                            all_goals (rw [h1, h2, h3, h4] at hF; simp only [Bool.or_true, Bool.or_false, Bool.true_or, Bool.false_or, Bool.and_true, Bool.and_false, Bool.true_and, Bool.false_and] at hF; subst hF)
                            all_goals (go_quiet (fail))
                            all_goals (go_wp2_with fail; go_meet)
                            all_goals exact ⟨rfl, rfl, rfl, rfl, Nat.le_refl _, fun _ _ => rfl⟩
                        case rest =>
                          as_aux_lemma =>
                            obtain ⟨rfl, hbx⟩ := hcut
                            have HBX := Lib.hid hbx
                            have HBW2 := HBW.out
                            have hsw := HBW2.size
                            have hXl := World.block_lt_of_cell? _ _ x1
                            have hYl := World.block_lt_of_cell? _ _ y1
                            have f1 := cellOf hbx (by omega) d1
                            have f2 := cellOf hbx (by omega) d2
                            have f3 := cellOf hbx (by omega) d3
                            have f4 := cellOf hbx (by omega) d4
                            have f5 := cellOf hbx hXl x1
                            have f6 := cellOf hbx hYl y1
                            have hT := HT.out.below (HBW2.trans (hbx.mono (by omega))) (Nat.le_refl _)
                            have hBz : Below P w wc := HB.out.trans ((HBW2.trans (hbx.mono (by omega))).mono (by omega))
                            obtain ⟨z5, -, q5⟩ := hT.2.1 (ta * 4 + tb) (by omega)
                            obtain ⟨z6, -, q6⟩ := hT.2.1 (tb * 4 + ta) (by omega)
                            have HTz := Lib.hid hT; have HBz := Lib.hid hBz
                            clear hT hBz x1 y1 d1 d2 d3 d4 hbx HBW2
                            cases F
                            · go_wp2_with fail
                              go_quiet (fail)
                              go_wp2_with fail
                              go_region
                              all_goals (go_wp2_with fail)
                              go_roundw
                              case rel =>
                                refine ⟨j + 1, q, by go_num, rfl, hq5, by omega, by omega, ?_, ?_⟩
                                · repeat (first | with_reducible exact HTz.out | with_reducible refine Tab.setK ?_ (by omega) | with_reducible refine Tab.drewN ?_ _ | with_reducible refine Tab.drew ?_)
                                · repeat (first | with_reducible exact HBz.out | with_reducible refine Below.setCell ?_ (Nat.le_succ _) _ | with_reducible refine below_drewN ?_ _ | with_reducible refine Below.drew ?_)
                              case measure => simp [intOf]; omega
                            · obtain ⟨rfl, rfl⟩ := HFr.out rfl
                              go_wp2_with fail
                              go_quiet (fail)
                              go_wp2_with fail
                              go_region
                              all_goals (go_wp2_with fail)
                              go_roundw
                              case rel =>
                                refine ⟨j + 1, q, by go_num, rfl, hq5, by omega, by omega, ?_, ?_⟩
                                · repeat (first | with_reducible exact HTz.out | with_reducible refine Tab.setK ?_ (by omega) | with_reducible refine Tab.drewN ?_ _ | with_reducible refine Tab.drew ?_)
                                · repeat (first | with_reducible exact HBz.out | with_reducible refine Below.setCell ?_ (Nat.le_succ _) _ | with_reducible refine below_drewN ?_ _ | with_reducible refine Below.drew ?_)
                              case measure => simp [intOf]; omega
                · go_wp2_with fail
                  go_region
                  all_goals go_wp2
                  go_roundw
                  case rel => exact ⟨j + 1, q, by go_num, rfl, hq5, by omega, by omega, HT.out, HB.out.drew⟩
                  case measure => simp [intOf]; omega
          · have hj2' : ¬ (j : Int) < 200 := by omega
            go_wp2_with fail
            refine (alive09_any _).mono ?_
            rintro e w6 ⟨rfl, hb6⟩
            go_wp2_with fail
            go_ret
            subst hP
            exact ⟨rfl, HB.out.trans (hb6.mono HB.out.size)⟩
        · have hjn' : ¬ (j : Int) < (n : Int) := by omega
          go_wp2_with fail
          refine (alive09_any _).mono ?_
          rintro e w6 ⟨rfl, hb6⟩
          go_wp2_with fail
          go_ret
          subst hP
          exact ⟨rfl, HB.out.trans (hb6.mono HB.out.size)⟩
end Go.Proofs.Ythfgnaplfglggaa
