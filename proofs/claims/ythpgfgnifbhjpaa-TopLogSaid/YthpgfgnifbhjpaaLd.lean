/- The tape: made, Room, Forced, Bytes, Force, Cut. -/
import Derived.Test.YthpgfgnifbhjpaaLa
import Derived.Deep.QuietTactic
import Derived.BigQuiet
import Derived.RegionTactic
import Derived.BigRegion
import Derived.StillTailTactics
import Derived.ArgAppend
namespace Go.Proofs.Ythpgfgnifbhjpaa
open Go.RowKit
set_option linter.unusedVariables false

/-- Block b is cells of a type. -/
def IsT (w : World) (t : TypeId) (b : Nat) : Prop := ∃ cur, w.heap[b]? = some (.cells cur t (0, 0))
theorem IsT.lt {w : World} {t : TypeId} {b : Nat} (h : IsT w t b) : b < w.heap.size := by
  obtain ⟨cur, h⟩ := h
  exact (Array.getElem?_eq_some_iff.1 h).1
theorem IsT.grown {w w' : World} {t : TypeId} {b : Nat} (h : IsT w t b) {row : Option Nat} (hg : w.grownBy w' row) (hne : some b ≠ row) : IsT w' t b := by
  have hlt := h.lt
  obtain ⟨cur, h⟩ := h
  exact ⟨cur, (hg.block b hlt hne).trans h⟩
theorem IsT.ne {w : World} {t u : TypeId} {b c : Nat} (h : IsT w t b) (h' : IsT w u c) (hne : t ≠ u) : b ≠ c := fun e => by
  subst e
  obtain ⟨x, h⟩ := h
  obtain ⟨y, h'⟩ := h'
  rw [h] at h'
  simp at h'
  exact hne h'.2
theorem IsT.setCell {w : World} {t : TypeId} {b : Nat} (h : IsT w t b) (c i : Nat) (u : Value) : IsT (w.setCell ⟨c, i, none⟩ u) t b := by
  by_cases e : b = c
  · subst e
    obtain ⟨cur, h⟩ := h
    exact ⟨_, heap_setCell_same w b i cur t u h⟩
  · obtain ⟨cur, h⟩ := h
    exact ⟨cur, (Below.heap_setCell _ _ _ _ e).trans h⟩
theorem own_isT {w : World} {base e size n : Nat} {v : Value} {xs : List Value} (h : w.ownsRow base e size v n xs) {g : Nat} (hg : v.ownBlock = some g) : IsT w e g := by
  rcases h.2 with ⟨rfl, _⟩ | ⟨g', cap, cur, rfl, _, hh, _⟩
  · simp [Value.ownBlock] at hg
  · simp [Value.ownBlock] at hg
    subst hg
    exact ⟨cur, hh⟩

/-- A tape at block T: its bytes, in blocks of a set, and how many are forced. -/
def TapeP (w : World) (P : Nat → Prop) (T : Nat) (room : Int) (xs : List Int) (f : Nat) (A : Option Addr) (c : Nat) : Prop :=
  (w.cell? ⟨T, 0, none⟩ = some (.int .i64 room) ∧ w.cell? ⟨T, 1, none⟩ = some (.slice A xs.length c) ∧ w.cell? ⟨T, 2, none⟩ = some (.int .i64 f)) ∧ (w.frozen? ⟨T, 1, none⟩ = false ∧ w.frozen? ⟨T, 2, none⟩ = false) ∧
  xs.length ≤ c ∧ c ≤ maxLen ∧ BytesP w P A xs
section
variable {w w' : World} {P : Nat → Prop} {T : Nat} {room : Int} {xs : List Int} {f : Nat} {A : Option Addr} {c : Nat}
theorem TapeP.kept (h : TapeP w P T room xs f A c) {row : Option Nat} (hg : w.grownBy w' row) (hT : some T ≠ row) (hP : ∀ b, P b → some b ≠ row) : TapeP w' P T room xs f A c := by
  obtain ⟨⟨h0, h1, h2⟩, ⟨f1, f2⟩, hl, hc, hb⟩ := h
  have hlt := World.block_lt_of_cell? w _ h0
  have hbk := hg.block T hlt hT
  exact ⟨⟨(World.cell?_of_block (a := ⟨T, 0, none⟩) hbk).trans h0, (World.cell?_of_block (a := ⟨T, 1, none⟩) hbk).trans h1, (World.cell?_of_block (a := ⟨T, 2, none⟩) hbk).trans h2⟩,
    ⟨(World.frozen?_of_block (a := ⟨T, 1, none⟩) hbk).trans f1, (World.frozen?_of_block (a := ⟨T, 2, none⟩) hbk).trans f2⟩, hl, hc, hb.keep fun b hp hlt => ⟨hp, hg.block b hlt (hP b hp)⟩⟩
theorem TapeP.below (h : TapeP w P T room xs f A c) (hb : Below w.heap.size w w') : TapeP w' P T room xs f A c := h.kept (grown_of_below hb none) (by simp) (by simp)
end

theorem tape_new (room : Int) (w : World) (h0 : 1 ≤ room) (h1 : room ≤ 65536) :
    Calls Try.prog 5 #[.int .i64 room] w fun e w' => e = .returned (.tuple #[.pointer (some ⟨w.heap.size, 0, none⟩), .int .i64 0]) ∧ w.alloc (.cells #[.int .i64 room, .slice none 0 0, .int .i64 0] 51) = w' := by
  have a1 : ¬ room < 1 := by omega
  have a2 : ¬ 65536 < room := by omega
  go_enter Try.func5, Try.ntmps5
  go_wp2
  go_ret2
  exact ⟨rfl, rfl⟩

theorem tape_made (T : Nat) (room : Int) (w : World) (h0 : 0 < room) (hc : w.cell? ⟨T, 0, none⟩ = some (.int .i64 room)) :
    Calls Try.prog 25 #[.pointer (some ⟨T, 0, none⟩)] w fun e w' => e = .returned (.bool true) ∧ w = w' := by
  go_enter Try.func25, Try.ntmps25
  go_wp2
  go_ret
  exact ⟨rfl, rfl⟩

theorem tape_room (T : Nat) (room : Int) (w : World) (h0 : 0 < room) (hc : w.cell? ⟨T, 0, none⟩ = some (.int .i64 room)) :
    Calls Try.prog 14 #[.pointer (some ⟨T, 0, none⟩)] w fun e w' => e = .returned (.int .i64 room) ∧ w = w' := by
  have h := tape_made T room w h0 hc
  have H := Lib.hid h
  clear h
  go_enter Try.func14, Try.ntmps14
  go_wp2_with (go_at_call 25; refine H.out.mono ?_; rintro e w1 ⟨rfl, rfl⟩)
  go_ret
  exact ⟨rfl, rfl⟩

theorem tape_forced (T : Nat) (room f : Int) (w : World) (h0 : 0 < room) (hc : w.cell? ⟨T, 0, none⟩ = some (.int .i64 room)) (hf : w.cell? ⟨T, 2, none⟩ = some (.int .i64 f)) :
    Calls Try.prog 12 #[.pointer (some ⟨T, 0, none⟩)] w fun e w' => e = .returned (.int .i64 f) ∧ w = w' := by
  have h := tape_made T room w h0 hc
  have H := Lib.hid h
  clear h
  go_enter Try.func12, Try.ntmps12
  go_wp2_with (go_at_call 25; refine H.out.mono ?_; rintro e w1 ⟨rfl, rfl⟩)
  go_ret
  exact ⟨rfl, rfl⟩

theorem tape_bytes (P : Nat → Prop) (T : Nat) (room : Int) (xs : List Int) (f : Nat) (A : Option Addr) (c : Nat) (w : World) (h0 : 0 < room) (hT : TapeP w P T room xs f A c) (hx : xs.length ≤ 100000) :
    Calls Try.prog 16 #[.pointer (some ⟨T, 0, none⟩)] w fun e w' => ∃ v, e = .returned v ∧ w'.ownsRow w.heap.size 5 1 v xs.length (xs.map (Value.int .u8)) ∧ Below w.heap.size w w' := by
  have h := tape_made T room w h0 hT.1.1
  have h2 := clone_any A c xs w hT.2.2.2.2.any hx hT.2.2.1
  have hc := hT.1.2.1
  have H := Lib.hid h; have H2 := Lib.hid h2
  clear h h2 hT
  go_enter Try.func16, Try.ntmps16
  go_wp2_with (first
    | (go_at_call 25; refine H.out.mono ?_; rintro e w1 ⟨rfl, rfl⟩)
    | (go_at_call 28; refine H2.out.mono ?_; rintro e w1 ⟨v, rfl, ho, hb⟩))
  go_ret
  exact ⟨_, rfl, ho, hb⟩

theorem tape_force (P : Nat → Prop) (T : Nat) (room : Int) (xs : List Int) (f : Nat) (A : Option Addr) (c : Nat) (w : World) (h0 : 0 < room) (hT : TapeP w P T room xs f A c) :
    Calls Try.prog 18 #[.pointer (some ⟨T, 0, none⟩)] w fun e w' => e = .returned (.int .i64 0) ∧ w.setCell ⟨T, 2, none⟩ (.int .i64 xs.length) = w' := by
  have h := tape_made T room w h0 hT.1.1
  have hc := hT.1.2.1
  have hc2 := hT.1.2.2
  have hf := hT.2.1.2
  have H := Lib.hid h
  clear h hT
  go_enter Try.func18, Try.ntmps18
  go_wp2_with (first
    | (go_at_call 25; refine H.out.mono ?_; rintro e w1 ⟨rfl, rfl⟩))
  go_ret
  exact ⟨rfl, rfl⟩

theorem TapeP.setForced {w : World} {P : Nat → Prop} {T : Nat} {room : Int} {xs : List Int} {f : Nat} {A : Option Addr} {c : Nat} (h : TapeP w P T room xs f A c) (hPT : ∀ b, P b → b ≠ T) (f' : Nat) :
    TapeP (w.setCell ⟨T, 2, none⟩ (.int .i64 f')) P T room xs f' A c := by
  obtain ⟨⟨h0, h1, h2⟩, ⟨f1, f2⟩, hl, hc, hb⟩ := h
  refine ⟨⟨?_, ?_, World.cell?_setCell_same' _ _ _ (by rw [h2]; rfl)⟩, ⟨by rw [World.frozen?_setCell]; exact f1, by rw [World.frozen?_setCell]; exact f2⟩, hl, hc, hb.keep fun b hp _ => ⟨hp, Below.heap_setCell _ _ _ _ (hPT b hp)⟩⟩
  · rw [World.cell?_setCell_other _ _ _ _ (by simp)]; exact h0
  · rw [World.cell?_setCell_other _ _ _ _ (by simp)]; exact h1
theorem TapeP.setBytes {w : World} {P P' : Nat → Prop} {T : Nat} {room : Int} {xs : List Int} {f : Nat} {A : Option Addr} {c : Nat} (h : TapeP w P T room xs f A c) (hPT : ∀ b, P' b → b ≠ T) {xs' : List Int} {A' : Option Addr} {c' : Nat}
    (hl' : xs'.length ≤ c') (hc' : c' ≤ maxLen) (hb' : BytesP w P' A' xs') : TapeP (w.setCell ⟨T, 1, none⟩ (.slice A' xs'.length c')) P' T room xs' f A' c' := by
  obtain ⟨⟨h0, h1, h2⟩, ⟨f1, f2⟩, hl, hc, hb⟩ := h
  refine ⟨⟨?_, World.cell?_setCell_same' _ _ _ (by rw [h1]; rfl), ?_⟩, ⟨by rw [World.frozen?_setCell]; exact f1, by rw [World.frozen?_setCell]; exact f2⟩, hl', hc', hb'.keep fun b hp _ => ⟨hp, Below.heap_setCell _ _ _ _ (hPT b hp)⟩⟩
  · rw [World.cell?_setCell_other _ _ _ _ (by simp)]; exact h0
  · rw [World.cell?_setCell_other _ _ _ _ (by simp)]; exact h2
theorem TapeP.grow {w : World} {P : Nat → Prop} {T : Nat} {room : Int} {xs : List Int} {f : Nat} {A : Option Addr} {c : Nat} (h : TapeP w P T room xs f A c) (o : Obj) : TapeP (w.alloc o) P T room xs f A c := h.kept (World.grownBy_alloc w o none) (by simp) (by simp)

theorem grown_set {w w' : World} {T : Nat} (h : w.grownBy w' (some T)) (i : Nat) (u : Value) : w.grownBy (w'.setCell ⟨T, i, none⟩ u) (some T) := by
  have hb := (Below.refl T w').setCell (p := ⟨T, i, none⟩) (Nat.le_refl _) u
  exact ⟨hb.os.trans h.os, hb.tape.trans h.tape, hb.output.trans h.output, Nat.le_trans h.size hb.size, fun k hk hne => (Below.heap_setCell _ _ _ k (fun e => hne (by rw [e]))).trans (h.block k hk hne)⟩
theorem grown_trans {W W' W2 : World} {row : Option Nat} (h : W.grownBy W' row) (hb : W'.grownBy W2 row) : W.grownBy W2 row :=
  ⟨hb.os.trans h.os, hb.tape.trans h.tape, hb.output.trans h.output, Nat.le_trans h.size hb.size, fun i hi hne => (hb.block i (Nat.lt_of_lt_of_le hi h.size) hne).trans (h.block i hi hne)⟩
theorem grown_drewN {W W' : World} {row : Option Nat} (h : W.grownBy W' row) (n : Nat) : W.grownBy (W'.drewN n) row := grown_trans h ⟨rfl, rfl, rfl, Nat.le_refl _, fun _ _ _ => rfl⟩
theorem TapeP.drewN {w : World} {P : Nat → Prop} {T : Nat} {room : Int} {xs : List Int} {f : Nat} {A : Option Addr} {c : Nat} (h : TapeP w P T room xs f A c) (n : Nat) : TapeP (w.drewN n) P T room xs f A c :=
  h.kept (row := none) ⟨rfl, rfl, rfl, Nat.le_refl _, fun _ _ _ => rfl⟩ (by simp) (by simp)
theorem grown_drew {W W' : World} {row : Option Nat} (h : W.grownBy W' row) : W.grownBy W'.drew row := grown_trans h ⟨rfl, rfl, rfl, Nat.le_refl _, fun _ _ _ => rfl⟩
theorem TapeP.drew {w : World} {P : Nat → Prop} {T : Nat} {room : Int} {xs : List Int} {f : Nat} {A : Option Addr} {c : Nat} (h : TapeP w P T room xs f A c) : TapeP w.drew P T room xs f A c :=
  h.kept (row := none) ⟨rfl, rfl, rfl, Nat.le_refl _, fun _ _ _ => rfl⟩ (by simp) (by simp)
theorem TapeP.cut {w : World} {P : Nat → Prop} {T : Nat} {room : Int} {xs : List Int} {f : Nat} {A : Option Addr} {c n : Nat} (h : TapeP w P T room xs f A c) (hPT : ∀ b, P b → b ≠ T) (hn : n ≤ xs.length) (f' : Nat) :
    TapeP ((w.setCell ⟨T, 1, none⟩ (.slice A n n)).setCell ⟨T, 2, none⟩ (.int .i64 f')) P T room (xs.take n) f' A n := by
  have hl : (xs.take n).length = n := by rw [List.length_take]; omega
  have := h.setBytes hPT (xs' := xs.take n) (A' := A) (c' := n) (by omega) (by have h1 := h.2.2.1; have h2 := h.2.2.2.1; omega) (h.2.2.2.2.take n)
  rw [hl] at this
  exact this.setForced hPT f'

set_option maxHeartbeats 1000000 in
theorem tape_cut (P : Nat → Prop) (T : Nat) (room : Int) (xs : List Int) (f n : Nat) (A : Option Addr) (c : Nat) (w : World) (h0 : 0 < room) (hT : TapeP w P T room xs f A c) (hPT : ∀ b, P b → b ≠ T) (hn : n ≤ xs.length) :
    Calls Try.prog 17 #[.pointer (some ⟨T, 0, none⟩), .int .i64 n] w fun e w' => e = .returned (.int .i64 0) ∧ TapeP w' P T room (xs.take n) (min f n) A n ∧ w.grownBy w' (some T) ∧ (∀ t, IsT w t T → IsT w' t T) := by
  have h := tape_made T room w h0 hT.1.1
  have hc := hT.1.2.1
  have hc2 := hT.1.2.2
  have hf := hT.2.1.2
  have hf1 := hT.2.1.1
  have hlc := hT.2.2.1
  have H := Lib.hid h; have HT := Lib.hid hT
  clear h hT
  have n0 : ¬ (n : Int) < 0 := by omega
  have n1 : ¬ (xs.length : Int) < (n : Int) := by omega
  have n2 : (0 : Int) ≤ (n : Int) := by omega
  have n3 : (n : Int) ≤ (c : Int) := by omega
  go_enter Try.func17, Try.ntmps17
  go_wp2_with (first
    | (go_at_call 25; refine H.out.mono ?_; rintro e w1 ⟨rfl, rfl⟩))
  · go_ret
    have hlt : n < f := by assumption
    exact ⟨rfl, by rw [Nat.min_eq_right (Nat.le_of_lt hlt)]; exact HT.out.cut hPT hn _, grown_set (grown_set (World.grownBy.refl w _) _ _) _ _, fun t h => (h.setCell _ _ _).setCell _ _ _⟩
  · go_ret
    have hlt : ¬ n < f := by assumption
    exact ⟨rfl, by rw [Nat.min_eq_left (Nat.le_of_not_lt hlt)]; exact HT.out.cut hPT hn _, grown_set (grown_set (World.grownBy.refl w _) _ _) _ _, fun t h => (h.setCell _ _ _).setCell _ _ _⟩

set_option maxHeartbeats 2000000 in
theorem tape_crash (P : Nat → Prop) (T : Nat) (room : Int) (xs : List Int) (f : Nat) (keep : Int) (A : Option Addr) (c : Nat) (w : World) (h0 : 0 < room) (hT : TapeP w P T room xs f A c) (hPT : ∀ b, P b → b ≠ T) (hf : f ≤ xs.length) (hx : xs.length ≤ 100000) :
    Calls Try.prog 9 #[.pointer (some ⟨T, 0, none⟩), .int .i64 keep] w fun e w' => e = .returned (.int .i64 0) ∧ ∃ n, f ≤ n ∧ n ≤ xs.length ∧ TapeP w' P T room (xs.take n) n A n ∧ w.grownBy w' (some T) ∧ (∀ t, IsT w t T → IsT w' t T) := by
  have h := tape_made T room w h0 hT.1.1
  have hc := hT.1.2.1
  have hc2 := hT.1.2.2
  have hf2 := hT.2.1.2
  have hf1 := hT.2.1.1
  have hlc := hT.2.2.1
  have H := Lib.hid h; have HT := Lib.hid hT
  clear h hT
  go_enter Try.func9, Try.ntmps9
  go_wp2_with (first
    | (go_at_call 25; refine H.out.mono ?_; rintro e w1 ⟨rfl, rfl⟩))
  obtain ⟨M, hM, hM1⟩ : ∃ M : Int, (if (xs.length : Int) - (f : Int) < keep then (xs.length : Int) - (f : Int) else keep) = M ∧ M ≤ (xs.length : Int) - (f : Int) := ⟨_, rfl, by split <;> omega⟩
  obtain ⟨k, hk, hk1⟩ : ∃ k : Nat, (if M < 0 then 0 else M) = (k : Int) ∧ f + k ≤ xs.length := by
    by_cases h : M < 0
    · exact ⟨0, by rw [if_pos h]; rfl, by omega⟩
    · exact ⟨M.toNat, by rw [if_neg h]; omega, by omega⟩
  have HM := Lib.hid hM; have HK := Lib.hid hk
  clear hM hk hM1
  go_region
  rw [HM.out, HK.out]
  clear HM HK
  have k1 : (0 : Int) ≤ (f : Int) + (k : Int) := by omega
  have k2 : (f : Int) + (k : Int) ≤ (c : Int) := by omega
  have hl : (xs.take (f + k)).length = f + k := by rw [List.length_take]; omega
  have hT1 := HT.out.setBytes hPT (xs' := xs.take (f + k)) (A' := A) (c' := f + k) (by omega) (by have h1 := HT.out.2.2.1; have h2 := HT.out.2.2.2.1; omega) (HT.out.2.2.2.2.take _)
  rw [hl] at hT1
  have hT2 := hT1.drew.drew
  have h3 := tape_force P T room (xs.take (f + k)) f A (f + k) _ h0 hT2
  have hT3 := hT2.setForced hPT (f + k)
  rw [hl] at h3
  have hg3 := grown_set (grown_drew (grown_drew (grown_set (World.grownBy.refl w (some T)) 1 (.slice A (f + k) (f + k))))) 2 (.int .i64 ((f + k : Nat) : Int))
  have H3 := Lib.hid h3; have HT3 := Lib.hid hT3; have HG3 := Lib.hid hg3
  clear hT1 hT2 h3 hT3 hg3 hl H
  go_wp2_with fail
  go_region
  go_wp2_with fail
  refine H3.out.mono ?_
  rintro e w1 ⟨rfl, rfl⟩
  go_wp2_with fail
  go_ret
  exact ⟨rfl, f + k, by omega, hk1, HT3.out, HG3.out, fun t h => (h.setCell T 1 _).setCell T 2 _⟩


/-- A tape whose bytes lie in blocks of bytes. -/
def Tape8 (w : World) (T : Nat) (room : Int) (xs : List Int) (f : Nat) : Prop := IsT w 51 T ∧ ∃ A c, TapeP w (IsT w 5) T room xs f A c
theorem TapeP.weaken {w : World} {P P' : Nat → Prop} {T : Nat} {room : Int} {xs : List Int} {f : Nat} {A : Option Addr} {c : Nat} (h : TapeP w P T room xs f A c) (hP : ∀ b, P b → P' b) : TapeP w P' T room xs f A c :=
  ⟨h.1, h.2.1, h.2.2.1, h.2.2.2.1, h.2.2.2.2.keep fun b hb _ => ⟨hP b hb, rfl⟩⟩
theorem Tape8.ne {w : World} {T : Nat} {room : Int} {xs : List Int} {f : Nat} (h : Tape8 w T room xs f) : ∀ b, IsT w 5 b → b ≠ T := fun b hb => hb.ne h.1 (by decide)
theorem Tape8.kept {w w' : World} {T : Nat} {room : Int} {xs : List Int} {f : Nat} (h : Tape8 w T room xs f) {row : Option Nat} (hg : w.grownBy w' row) (hT : some T ≠ row) (hr : ∀ r, row = some r → ¬ IsT w 5 r) : Tape8 w' T room xs f := by
  obtain ⟨ht, A, c, hp⟩ := h
  have hne : ∀ b, IsT w 5 b → some b ≠ row := fun b hb e => hr b e.symm hb
  exact ⟨ht.grown hg hT, A, c, (hp.kept hg hT hne).weaken fun b hb => hb.grown hg (hne b hb)⟩
theorem Tape8.below {w w' : World} {T : Nat} {room : Int} {xs : List Int} {f : Nat} (h : Tape8 w T room xs f) (hb : Below w.heap.size w w') : Tape8 w' T room xs f :=
  h.kept (grown_of_below hb none) (by simp) (by simp)
theorem Tape8.lt {w : World} {T : Nat} {room : Int} {xs : List Int} {f : Nat} (h : Tape8 w T room xs f) : T < w.heap.size := h.1.lt

theorem tape8_cut (T : Nat) (room : Int) (xs : List Int) (f n : Nat) (w : World) (h0 : 0 < room) (hT : Tape8 w T room xs f) (hn : n ≤ xs.length) :
    Calls Try.prog 17 #[.pointer (some ⟨T, 0, none⟩), .int .i64 n] w fun e w' => e = .returned (.int .i64 0) ∧ Tape8 w' T room (xs.take n) (min f n) ∧ w.grownBy w' (some T) := by
  obtain ⟨ht, A, c, hp⟩ := hT
  have hne : ∀ b, IsT w 5 b → b ≠ T := fun b hb => hb.ne ht (by decide)
  exact (tape_cut _ T room xs f n A c w h0 hp hne hn).mono fun e w' ⟨he, h1, h2, h3⟩ => ⟨he, ⟨h3 _ ht, A, n, h1.weaken fun b hb => hb.grown h2 (by simp; exact hne b hb)⟩, h2⟩
theorem tape8_crash (T : Nat) (room : Int) (xs : List Int) (f : Nat) (keep : Int) (w : World) (h0 : 0 < room) (hT : Tape8 w T room xs f) (hf : f ≤ xs.length) (hx : xs.length ≤ 100000) :
    Calls Try.prog 9 #[.pointer (some ⟨T, 0, none⟩), .int .i64 keep] w fun e w' => e = .returned (.int .i64 0) ∧ ∃ n, f ≤ n ∧ n ≤ xs.length ∧ Tape8 w' T room (xs.take n) n ∧ w.grownBy w' (some T) := by
  obtain ⟨ht, A, c, hp⟩ := hT
  have hne : ∀ b, IsT w 5 b → b ≠ T := fun b hb => hb.ne ht (by decide)
  exact (tape_crash _ T room xs f keep A c w h0 hp hne hf hx).mono fun e w' ⟨he, n, h4, h5, h1, h2, h3⟩ => ⟨he, n, h4, h5, ⟨h3 _ ht, A, n, h1.weaken fun b hb => hb.grown h2 (by simp; exact hne b hb)⟩, h2⟩
theorem tape8_force (T : Nat) (room : Int) (xs : List Int) (f : Nat) (w : World) (h0 : 0 < room) (hT : Tape8 w T room xs f) :
    Calls Try.prog 18 #[.pointer (some ⟨T, 0, none⟩)] w fun e w' => e = .returned (.int .i64 0) ∧ Tape8 w' T room xs xs.length ∧ w.grownBy w' (some T) := by
  obtain ⟨ht, A, c, hp⟩ := hT
  have hne : ∀ b, IsT w 5 b → b ≠ T := fun b hb => hb.ne ht (by decide)
  refine (tape_force _ T room xs f A c w h0 hp).mono fun e w' ⟨he, hw⟩ => ?_
  subst hw
  have hg := grown_set (World.grownBy.refl w (some T)) 2 (.int .i64 (xs.length : Nat))
  exact ⟨he, ⟨ht.setCell _ _ _, A, c, (hp.setForced hne xs.length).weaken fun b hb => hb.setCell _ _ _⟩, hg⟩
theorem tape8_new (room : Int) (w : World) (h0 : 1 ≤ room) (h1 : room ≤ 65536) :
    Calls Try.prog 5 #[.int .i64 room] w fun e w' => e = .returned (.tuple #[.pointer (some ⟨w.heap.size, 0, none⟩), .int .i64 0]) ∧ Tape8 w' w.heap.size room [] 0 ∧ Below w.heap.size w w' := by
  refine (tape_new room w h0 h1).mono fun e w' ⟨he, hw⟩ => ?_
  subst hw
  exact ⟨he, ⟨⟨_, World.alloc_heap_new w _⟩, none, 0, ⟨by simp, by simp, by simp⟩, ⟨by simp, by simp⟩, by simp, by unfold maxLen; omega, fun hp => absurd hp (by simp)⟩, below_alloc (Below.refl _ _) _⟩
end Go.Proofs.Ythpgfgnifbhjpaa
