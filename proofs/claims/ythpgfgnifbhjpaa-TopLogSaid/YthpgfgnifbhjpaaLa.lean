/- Texts of bytes in memory; oct.Sum, oct.Get, slices.Clone. -/
import Derived.Test.YthpgfgnifbhjpaaBase
import Derived.Test.YthpgfgnifbhjpaaMem
import Derived.WalkKit
import Derived.WalkSpells
import Derived.WalkLawsBesides
import Derived.WalkSmall
import Derived.Lib.Hide
import Derived.RangeFuncBox
namespace Go.Proofs.Ythpgfgnifbhjpaa
open Go.RowKit
set_option linter.unusedVariables false

/-- A text of bytes that a slice holds, in a block of a set. -/
def BytesP (w : World) (P : Nat → Prop) (A : Option Addr) (xs : List Int) : Prop :=
  0 < xs.length → ∃ b off, A = some ⟨b, off, none⟩ ∧ P b ∧ ∀ i x, xs[i]? = some x → w.cell? ⟨b, off + i, none⟩ = some (.int .u8 x)
/-- .. in whatever block. -/
abbrev BytesAt (w : World) (A : Option Addr) (xs : List Int) : Prop := BytesP w (fun _ => True) A xs
/-- Numbers that are bytes. -/
def Bytes (xs : List Int) : Prop := ∀ x ∈ xs, 0 ≤ x ∧ x < 256

theorem BytesP.any {w : World} {P : Nat → Prop} {A : Option Addr} {xs : List Int} (h : BytesP w P A xs) : BytesAt w A xs := fun hp => by
  obtain ⟨b, off, e, _, hc⟩ := h hp
  exact ⟨b, off, e, trivial, hc⟩
theorem BytesP.keep {w w' : World} {P P' : Nat → Prop} {A : Option Addr} {xs : List Int} (h : BytesP w P A xs) (hP : ∀ b, P b → b < w.heap.size → P' b ∧ w'.heap[b]? = w.heap[b]?) : BytesP w' P' A xs := fun hp => by
  obtain ⟨b, off, e, hb, hc⟩ := h hp
  obtain ⟨x0, hx0⟩ : ∃ x0, xs[0]? = some x0 := ⟨xs[0], List.getElem?_eq_getElem hp⟩
  have hlt : b < w.heap.size := World.block_lt_of_cell? w _ (hc 0 x0 hx0)
  obtain ⟨h1, h2⟩ := hP b hb hlt
  exact ⟨b, off, e, h1, fun i x hx => (World.cell?_of_block (a := ⟨b, off + i, none⟩) h2).trans (hc i x hx)⟩
theorem BytesAt.below {w w' : World} {A : Option Addr} {xs : List Int} (h : BytesAt w A xs) (hb : Below w.heap.size w w') : BytesAt w' A xs :=
  BytesP.keep h fun b _ hlt => ⟨trivial, hb.block b hlt⟩
theorem BytesP.below {w w' : World} {P : Nat → Prop} {A : Option Addr} {xs : List Int} (h : BytesP w P A xs) (hb : Below w.heap.size w w') : BytesP w' P A xs :=
  BytesP.keep h fun b hp hlt => ⟨hp, hb.block b hlt⟩
theorem BytesP.drew {w : World} {P : Nat → Prop} {A : Option Addr} {xs : List Int} (h : BytesP w P A xs) : BytesP w.drew P A xs := h
theorem BytesP.take {w : World} {P : Nat → Prop} {A : Option Addr} {xs : List Int} (h : BytesP w P A xs) (k : Nat) : BytesP w P A (xs.take k) := fun hp => by
  have hl : 0 < xs.length := by rw [List.length_take] at hp; omega
  obtain ⟨b, off, e, hb, hc⟩ := h hl
  refine ⟨b, off, e, hb, fun i x hx => hc i x ?_⟩
  rw [List.getElem?_take] at hx
  split at hx
  · exact hx
  · cases hx
theorem BytesP.reads {w : World} {P : Nat → Prop} {A : Option Addr} {xs : List Int} (h : BytesP w P A xs) : Reads w w.heap.size 1 A xs.length (xs.map (Value.int .u8)) :=
  ⟨by simp, fun hn => by
    obtain ⟨b, off, rfl, hb, hc⟩ := h hn
    obtain ⟨x0, hx0⟩ : ∃ x0, xs[0]? = some x0 := ⟨xs[0], List.getElem?_eq_getElem hn⟩
    have hlt : b < w.heap.size := World.block_lt_of_cell? w _ (hc 0 x0 hx0)
    refine ⟨_, rfl, hlt, fun j u hu => ?_⟩
    rw [List.getElem?_map] at hu
    obtain ⟨x, hx, rfl⟩ := Option.map_eq_some_iff.1 hu
    rw [Go.WideShapes.add_plain]
    exact hc j x hx⟩
theorem bytes_of_own {w : World} {base n : Nat} {v : Value} {xs : List Int} {P : Nat → Prop} (h : w.ownsRow base 5 1 v n (xs.map (Value.int .u8))) (hP : ∀ g, v.ownBlock = some g → P g) :
    ∃ A c, v = .slice A xs.length c ∧ xs.length ≤ c ∧ c ≤ maxLen ∧ BytesP w P A xs := by
  have hn : n = xs.length := by have := h.1; simp at this; omega
  subst hn
  rcases h.2 with ⟨rfl, h0⟩ | ⟨g, cap, cur, rfl, _, hg, hnc, hcap, _, _⟩
  · refine ⟨none, 0, ?_, by omega, by unfold maxLen; omega, fun hp => absurd hp (by omega)⟩
    rw [show xs.length = 0 from h0]
  · refine ⟨_, cap, rfl, hnc, hcap, fun hp => ⟨g, 0, rfl, hP g rfl, fun i x hx => ?_⟩⟩
    have hi : i < xs.length := (List.getElem?_eq_some_iff.1 hx).1
    have := h.cellAt i (by omega)
    rw [Nat.zero_add, this, List.getElem?_map, hx]
    rfl
theorem grown_of_below {a w : World} (h : Below a.heap.size a w) (row : Option Nat) : a.grownBy w row := ⟨h.os, h.tape, h.output, h.size, fun i hi _ => h.block i hi⟩
theorem own_none {W : World} {base e : Nat} {size : Nat} {v : Value} {n : Nat} {xs : List Value} (h : W.ownsRow base e size v n xs) : v.ownBlock = none ∨ v.ownBlock ≠ none := by
  cases v.ownBlock
  · exact .inl rfl
  · exact .inr (by simp)

theorem info_u8 : (Try.prog.info? 5).map (fun i => (i.zero, i.size, i.bytes)) = some (some (.int .u8 0), 1, 1) := by kernel_rfl

/-- Bytes appended onto a row of the call's own. -/
theorem wpList_append_bytes {w : World} {ops : Array Oper} {rest : List Oper} {o : Oper} {a : Act} {Q : Exit → Act → World → Prop} (hgd : o.guard = none) (s x : Operand)
    (ho : o.op = .call { callee := .builtin .append, args := #[s, x], argTypes := #[34, 34] })
    (base : Nat) (v : Value) (xs ys : List Int) (hs : a.eval s = v) (hown : w.ownsRow base 5 1 v xs.length (xs.map (Value.int .u8)))
    (A : Option Addr) (m c : Nat) (hx : a.eval x = .slice A m c) (hm : m = ys.length) (hr : BytesAt w A ys)
    (hsm : xs.length + ys.length ≤ 1000000) (hbase : base ≤ w.heap.size)
    (h : ∀ v' w', w'.ownsRow base 5 1 v' (xs ++ ys).length ((xs ++ ys).map (Value.int .u8)) → w.grownBy w' v.ownBlock → Below base w w' → wpList Try.prog ops Q rest (a.put o.dst v') w') : wpList Try.prog ops Q (o :: rest) a w := by
  subst hm
  obtain ⟨i0, hi, hz0, hz1, hz2⟩ := info_parts info_u8
  refine wpList_append_any w hgd s x _ ho base 5 i0 _ 1 1 Try.underlying34 hi hz0 hz1 hz2 rfl (by omega) v xs.length _ hs hown w.heap.size A ys.length c _ hx hr.reads
    (fun u hu => by obtain ⟨x, _, rfl⟩ := List.mem_map.1 hu; rfl) (by unfold maxLen; omega) (by omega) hbase ?_
  intro v' w' hown' hg _
  rw [← List.map_append, ← List.length_append] at hown'
  exact h v' w' hown' hg ((Below.refl _ w).grown hg hbase fun k hk => (hown.lt k hk).1)

/-- The sums of bytes, one behind another. -/
def sumS : List Int → Int → Int → Int × Int
  | [], a, c => (a, c)
  | x :: xs, a, c => sumS xs ((a + x) % 65521) ((c + (a + x) % 65521) % 65521)
theorem sumS_lt : ∀ (xs : List Int) (a c : Int), 0 ≤ a → a < 65521 → 0 ≤ c → c < 65521 → 0 ≤ (sumS xs a c).1 ∧ (sumS xs a c).1 < 65521 ∧ 0 ≤ (sumS xs a c).2 ∧ (sumS xs a c).2 < 65521
  | [], a, c, h1, h2, h3, h4 => ⟨h1, h2, h3, h4⟩
  | x :: xs, a, c, h1, h2, h3, h4 => sumS_lt xs _ _ (by omega) (by omega) (by omega) (by omega)
/-- oct.Sum. -/
def sumF (xs : List Int) : Int := (sumS xs 1 0).2 * 65536 + (sumS xs 1 0).1
theorem sumF_lt (xs : List Int) : 0 ≤ sumF xs ∧ sumF xs < 4294967296 := by
  have := sumS_lt xs 1 0 (by omega) (by omega) (by omega) (by omega)
  unfold sumF
  omega

theorem or_low (a b : Nat) (i : Nat) (hb : b < 2 ^ i) : a * 2 ^ i ||| b = a * 2 ^ i + b := by
  rw [Nat.mul_comm, Nat.two_pow_add_eq_or_of_lt hb]

theorem or_u32 {y x : Int} (y0 : 0 ≤ y) (y1 : y < 65536) (x0 : 0 ≤ x) (x1 : x < 65536) : bits .or .u32 (y * 65536) x = y * 65536 + x := by
  obtain ⟨m, rfl⟩ := Int.eq_ofNat_of_zero_le y0
  obtain ⟨n, rfl⟩ := Int.eq_ofNat_of_zero_le x0
  have h : (BitVec.ofInt 32 ((m : Int) * 65536) ||| BitVec.ofInt 32 (n : Int)).toNat = m * 65536 + n := by
    rw [BitVec.toNat_or, show ((m : Int) * 65536) = ((m * 65536 : Nat) : Int) by omega, BitVec.ofInt_natCast, BitVec.ofInt_natCast, BitVec.toNat_ofNat, BitVec.toNat_ofNat, Nat.mod_eq_of_lt (by omega), Nat.mod_eq_of_lt (by omega)]
    exact or_low m n 16 (by omega)
  show IntKind.u32.wrap ((BitVec.ofInt 32 ((m : Int) * 65536) ||| BitVec.ofInt 32 (n : Int)).toNat : Int) = _
  rw [h]
  simp [IntKind.wrap, IntKind.bits, IntKind.signed]
  omega
theorem or_i64 {y x : Int} (y0 : 0 ≤ y) (y1 : y < 65536) (x0 : 0 ≤ x) (x1 : x < 256) : bits .or .i64 (y * 256) x = y * 256 + x := by
  obtain ⟨m, rfl⟩ := Int.eq_ofNat_of_zero_le y0
  obtain ⟨n, rfl⟩ := Int.eq_ofNat_of_zero_le x0
  have h : (BitVec.ofInt 64 ((m : Int) * 256) ||| BitVec.ofInt 64 (n : Int)).toNat = m * 256 + n := by
    rw [BitVec.toNat_or, show ((m : Int) * 256) = ((m * 256 : Nat) : Int) by omega, BitVec.ofInt_natCast, BitVec.ofInt_natCast, BitVec.toNat_ofNat, BitVec.toNat_ofNat, Nat.mod_eq_of_lt (by omega), Nat.mod_eq_of_lt (by omega)]
    exact or_low m n 8 (by omega)
  show IntKind.i64.wrap ((BitVec.ofInt 64 ((m : Int) * 256) ||| BitVec.ofInt 64 (n : Int)).toNat : Int) = _
  rw [h, IntKind.wrap_i64]
  omega
theorem or_u64 {y x : Int} (y0 : 0 ≤ y) (y1 : y < 16777216) (x0 : 0 ≤ x) (x1 : x < 256) : bits .or .u64 (y * 256) x = y * 256 + x := by
  obtain ⟨m, rfl⟩ := Int.eq_ofNat_of_zero_le y0
  obtain ⟨n, rfl⟩ := Int.eq_ofNat_of_zero_le x0
  have h : (BitVec.ofInt 64 ((m : Int) * 256) ||| BitVec.ofInt 64 (n : Int)).toNat = m * 256 + n := by
    rw [BitVec.toNat_or, show ((m : Int) * 256) = ((m * 256 : Nat) : Int) by omega, BitVec.ofInt_natCast, BitVec.ofInt_natCast, BitVec.toNat_ofNat, BitVec.toNat_ofNat, Nat.mod_eq_of_lt (by omega), Nat.mod_eq_of_lt (by omega)]
    exact or_low m n 8 (by omega)
  show IntKind.u64.wrap ((BitVec.ofInt 64 ((m : Int) * 256) ||| BitVec.ofInt 64 (n : Int)).toNat : Int) = _
  rw [h]
  simp [IntKind.wrap, IntKind.bits, IntKind.signed]
  omega

theorem ret_u32 {a b : Int} (h : b = a) : Ending.returned (.int .u32 a) = .returned (.int .u32 b) := by cases h; rfl
theorem ret_i64 {a b : Int} (h : b = a) : Ending.returned (.int .i64 a) = .returned (.int .i64 b) := by cases h; rfl
theorem ret_bool {a b : Bool} (h : b = a) : Ending.returned (.bool a) = .returned (.bool b) := by cases h; rfl

set_option maxHeartbeats 1000000 in
theorem sum_any (A : Option Addr) (c : Nat) (xs : List Int) (w : World) (hA : BytesAt w A xs) (hB : Bytes xs) (hm : xs.length ≤ maxLen) :
    Calls Try.prog 13 #[.slice A xs.length c] w fun e w' => e = .returned (.int .u32 (sumF xs)) ∧ w = w' := by
  unfold maxLen at hm
  go_enter Try.func13, Try.ntmps13
  go_wp2
  go_loop [3, 4, 6, 9] (fun a cc _ i => ∃ (k : Nat) (x y : Int), k ≤ xs.length ∧ i = .int .i64 k ∧ a = .int .u32 x ∧ cc = .int .u32 y ∧ 0 ≤ x ∧ x < 65521 ∧ 0 ≤ y ∧ y < 65521 ∧ sumS (xs.drop k) x y = sumS xs 1 0) (fun _ _ _ i => xs.length - (intOf i).toNat)
  case atStart => exact ⟨0, 1, 0, Nat.zero_le _, rfl, rfl, rfl, by omega, by omega, by omega, by omega, rfl⟩
  case round =>
    obtain ⟨k, x, y, hk, rfl, rfl, rfl, x0, x1, y0, y1, hs⟩ := hrel
    by_cases hlt : k < xs.length
    · obtain ⟨b, off, rfl, -, hc⟩ := hA (by omega)
      have hx : xs[k]? = some xs[k] := List.getElem?_eq_getElem hlt
      have hcell := hc k _ hx
      have hbyte := hB xs[k] (List.getElem_mem hlt)
      rw [List.drop_eq_getElem_cons hlt, sumS] at hs
      generalize xs[k] = z at hs hcell hx hbyte
      have HS := Lib.hid hs
      clear hs hx hc
      have hkl : (k : Int) < (xs.length : Int) := by omega
      obtain ⟨z0, z1⟩ := hbyte
      go_wp2
      go_round
      case rel => exact ⟨k + 1, _, _, by omega, by go_num, rfl, rfl, by omega, by omega, by omega, by omega, HS.out⟩
      case measure => simp [intOf]; omega
    · have hkl : ¬ (k : Int) < (xs.length : Int) := by omega
      have HS := Lib.hid hs
      clear hs
      have hkx : k = xs.length := by omega
      have HK := Lib.hid hkx
      clear hkx
      go_wp2
      go_ret
      refine ⟨ret_u32 ?_, rfl⟩
      have hs := HS.out
      rw [HK.out, List.drop_length, sumS] at hs
      show sumF xs = bits .or .u32 (y * 65536) x
      rw [or_u32 y0 (by omega) x0 (by omega), sumF, ← hs]

/-- oct.Get of four bytes. -/
def getS : List Int → Int → Int
  | [], v => v
  | x :: xs, v => getS xs (v * 256 + x)
def getF (xs : List Int) : Int := getS xs 0
theorem ret_u64 {a b : Int} (h : b = a) : Ending.returned (.tuple #[.int .u64 a, .int .i64 0]) = .returned (.tuple #[.int .u64 b, .int .i64 0]) := by cases h; rfl

set_option maxHeartbeats 1000000 in
theorem get_any (A : Option Addr) (c : Nat) (xs : List Int) (w : World) (hA : BytesAt w A xs) (hB : Bytes xs) (hm : xs.length = 4) :
    Calls Try.prog 33 #[.slice A 4 c] w fun e w' => e = .returned (.tuple #[.int .u64 (getF xs), .int .i64 0]) ∧ w = w' := by
  go_enter Try.func33, Try.ntmps33
  go_wp2
  go_loop [4, 6, 17] (fun a _ i => ∃ (k : Nat) (x : Int), k ≤ 4 ∧ i = .int .i64 k ∧ a = .int .u64 x ∧ 0 ≤ x ∧ ((k = 0 ∧ x < 1) ∨ (k = 1 ∧ x < 256) ∨ (k = 2 ∧ x < 65536) ∨ (k = 3 ∧ x < 16777216) ∨ (k = 4 ∧ x < 4294967296)) ∧ getS (xs.drop k) x = getS xs 0) (fun _ _ i => 4 - (intOf i).toNat)
  case atStart => exact ⟨0, 0, by omega, rfl, rfl, by omega, by omega, rfl⟩
  case round =>
    obtain ⟨k, x, hk, rfl, rfl, x0, x1, hs⟩ := hrel
    by_cases hlt : k < 4
    · have hlx : k < xs.length := by omega
      obtain ⟨b, off, rfl, -, hc⟩ := hA (by omega)
      have hx : xs[k]? = some xs[k] := List.getElem?_eq_getElem hlx
      have hcell := hc k _ hx
      have hbyte := hB xs[k] (List.getElem_mem hlx)
      rw [List.drop_eq_getElem_cons hlx, getS] at hs
      generalize xs[k] = z at hs hcell hx hbyte
      have HS := Lib.hid hs
      obtain ⟨z0, z1⟩ := hbyte
      have xb : x < 16777216 := by omega
      have hor := or_u64 x0 xb z0 z1
      have HX := Lib.hid x1
      clear hs hx hc x1
      have hkl : (k : Int) < 4 := by omega
      go_wp2
      go_round
      case rel => exact ⟨k + 1, x * 256 + z, by omega, by go_num, rfl, by omega, by have := HX.out; omega, HS.out⟩
      case measure => simp [intOf]; omega
    · have hkl : ¬ (k : Int) < 4 := by omega
      have hk4 : k = xs.length := by omega
      have HK := Lib.hid hk4
      have HS := Lib.hid hs
      clear hs x1 hk4
      go_wp2
      go_ret2
      refine ⟨ret_u64 ?_, rfl⟩
      have hs := HS.out
      rw [HK.out, List.drop_length, getS] at hs
      exact hs.symm

set_option maxHeartbeats 1000000 in
theorem clone_any (A : Option Addr) (c : Nat) (xs : List Int) (w : World) (hA : BytesAt w A xs) (hm : xs.length ≤ 100000) (hl : xs.length ≤ c) :
    Calls Try.prog 28 #[.slice A xs.length c] w fun e w' => ∃ v, e = .returned v ∧ w'.ownsRow w.heap.size 5 1 v xs.length (xs.map (Value.int .u8)) ∧ Below w.heap.size w w' := by
  cases A with
  | none =>
    have h0 : xs = [] := by
      cases xs with
      | nil => rfl
      | cons x xs => obtain ⟨b, off, e, _⟩ := hA (by simp); cases e
    subst h0
    have he : ∀ w : World, (binOp .eql 34 (.slice none 0 c) (.slice none 0 0)).run Try.prog w = .ok (.bool true) w := fun _ => by kernel_rfl
    go_enter Try.func28, Try.ntmps28
    go_wp2
    go_ret
    exact ⟨_, rfl, World.ownsRow_nil _ _ _ _, Below.refl _ _⟩
  | some ad =>
    have he : ∀ w : World, (binOp .eql 34 (.slice (some ad) xs.length c) (.slice none 0 0)).run Try.prog w = .ok (.bool false) w := fun _ => by kernel_rfl
    have hb0 := below_alloc (Below.refl _ w) (.cells #[] 5)
    have hA2 := hA.below hb0
    have hown : (w.alloc (.cells #[] 5)).ownsRow w.heap.size 5 1 (.slice (some ⟨w.heap.size, 0, none⟩) 0 0) 0 (([] : List Int).map (Value.int .u8)) := World.ownsRow_made w #[] 0 (Nat.le_refl _) (by unfold maxLen; omega) rfl
    have HA := Lib.hid hA2; have HO := Lib.hid hown; have HB := Lib.hid hb0
    clear hA hA2 hown hb0
    go_enter Try.func28, Try.ntmps28
    go_wp2_with (at_builtin; go_must (refine wpList_append_bytes rfl _ _ rfl w.heap.size _ [] xs rfl HO.out (some ad) xs.length c rfl rfl HA.out (by simp; omega) (by simp) ?_; intro v2 w2 hown2 hg2 hb2))
    go_ret
    exact ⟨_, rfl, hown2, HB.out.trans hb2⟩
end Go.Proofs.Ythpgfgnifbhjpaa
