/- tape.Append. -/
import Derived.Test.YthpgfgnifbhjpaaLd
import Derived.Deep.RegionLaw
import Derived.Deep.RegionLawGrows
namespace Go.Proofs.Ythpgfgnifbhjpaa
open Go.RowKit
set_option linter.unusedVariables false

theorem TapeP.setBytes2 {w : World} {P P' : Nat → Prop} {T : Nat} {room : Int} {zs : List Int} {f : Nat} {A : Option Addr} {c : Nat} (h : TapeP w P T room zs f A c) (hPT : ∀ b, P' b → b ≠ T) {xs ys : List Int} {A' : Option Addr} {c' : Nat}
    (hl' : (xs ++ ys).length ≤ c') (hc' : c' ≤ maxLen) (hb' : BytesP w P' A' (xs ++ ys)) : TapeP (w.setCell ⟨T, 1, none⟩ (.slice A' (xs.length + ys.length) c')) P' T room (xs ++ ys) f A' c' := by
  have := h.setBytes hPT hl' hc' hb'
  rw [List.length_append] at this
  exact this
theorem grown_any {w w' : World} (h : w.grownBy w' none) (row : Option Nat) : w.grownBy w' row := ⟨h.os, h.tape, h.output, h.size, fun i hi _ => h.block i hi (by simp)⟩
set_option maxHeartbeats 40000000 in
theorem tape_append (P : Nat → Prop) (T : Nat) (room : Int) (xs ys : List Int) (f : Nat) (A : Option Addr) (c : Nat) (A2 : Option Addr) (c2 : Nat) (w : World) (h0 : 0 < room) (hT : TapeP w P T room xs f A c) (hPT : ∀ b, P b → b ≠ T) (hTlt : T < w.heap.size)
    (hx : xs.length ≤ 100000) (hy : 0 < ys.length) (hr : (xs.length : Int) + ys.length ≤ room) (hr2 : room ≤ 65536) (hB : BytesAt w A2 ys) :
    Calls Try.prog 24 #[.pointer (some ⟨T, 0, none⟩), .slice A2 ys.length c2] w fun e w' => e = .returned (.int .i64 0) ∧ ∃ A' c', TapeP w' (IsT w' 5) T room (xs ++ ys) f A' c' ∧ w.grownBy w' (some T) ∧ (∀ t, IsT w t T → IsT w' t T) := by
  have h := tape_made T room w h0 hT.1.1
  have hc := hT.1.2.1
  have hc0 := hT.1.1
  have hf1 := hT.2.1.1
  have hlc := hT.2.2.1
  have H := Lib.hid h; have HT := Lib.hid hT; have HB := Lib.hid hB
  clear h hT hB
  have a1 : ¬ room - (xs.length : Int) < (ys.length : Int) := by omega
  have a2 : (xs.length : Int) ≤ (c : Int) := by omega
  have a3 : (0 : Int) ≤ (xs.length : Int) := by omega
  go_enter Try.func24, Try.ntmps24
  go_wp2_with (first
    | (go_at_call 25; refine H.out.mono ?_; rintro e w1 ⟨rfl, rfl⟩))
  go_quiet (fail)
  go_wp2_with fail
  obtain ⟨i0, hi, hz0, hz1, hz2⟩ := info_parts info_u8
  have hT2 := HT.out.drewN nq
  have hg2 := grown_drewN (World.grownBy.refl w (some T)) nq
  have hs2 : (w.drewN nq).heap.size = w.heap.size := rfl
  have hB2 : BytesAt (w.drewN nq) A2 ys := HB.out
  have HW0 := Lib.hid (fun t (h : IsT w t T) => (show IsT (w.drewN nq) t T from h))
  clear HT HB hc hc0 hf1 H
  generalize w.drewN nq = W at *
  rw [← hs2] at hTlt
  have hc := hT2.1.2.1
  have hf1 := hT2.2.1.1
  have hnone : A = none → xs.length = 0 ∧ xs.length = 0 := fun e => by
    have : ¬ 0 < xs.length := fun hp => by
      obtain ⟨b, off, e', _⟩ := hT2.2.2.2.2 hp
      rw [e] at e'; cases e'
    omega
  have holds : ∀ b, A = some b → ∀ j u, (xs.map (Value.int .u8))[j]? = some u → W.drew.cell? (b.add j) = some u := fun b e j u hu => by
    have hp : 0 < xs.length := by
      have := (List.getElem?_eq_some_iff.1 hu).1
      simp at this; omega
    obtain ⟨ad, e', _, hcl⟩ := hT2.2.2.2.2.reads.2 hp
    rw [e] at e'; cases e'
    exact hcl j u hu
  obtain ⟨ad, rfl, -, hnew⟩ := hB2.reads.2 hy
  have hnew2 : ∀ j u, (ys.map (Value.int .u8))[j]? = some u → W.drew.cell? (ad.add j) = some u := hnew
  have h1c : ∀ u ∈ ys.map (Value.int .u8), u.oneCell' = true := fun u hu => by obtain ⟨x, _, rfl⟩ := List.mem_map.1 hu; rfl
  have HN := Lib.hid hnone; have HO := Lib.hid holds; have HW := Lib.hid hnew2; have H1 := Lib.hid h1c; have HT2 := Lib.hid hT2; have HG2 := Lib.hid hg2
  clear hnone holds hnew hnew2 h1c hT2 hg2 hB2
  go_region_law
    ((refine step_append_grows rfl _ _ _ rfl _ i0 _ 1 1 Try.underlying34 hi hz0 hz1 hz2 rfl (by decide) A xs.length xs.length (xs.map (Value.int .u8)) rfl HN.out (by simp) HO.out ad ys.length c2 (ys.map (Value.int .u8)) rfl (by simp) HW.out H1.out (by omega) (by unfold maxLen; omega) (by omega) ?_; intro v' w' hown' hg'; rw [← List.map_append, ← List.length_append] at hown'; obtain ⟨A', c', rfl, hl', hcm', hb'⟩ := bytes_of_own (P := fun b => IsT w' 5 b ∧ b ≠ T) hown' (fun g e => ⟨own_isT hown' e, fun e2 => by have := (hown'.lt g e).1; rw [e2] at this; exact absurd hTlt (Nat.not_lt.2 this)⟩); have hTw := HT2.out.drew.kept hg' (by simp) (by simp); have e1 := hTw.1.2.1; have e2 := hTw.2.1.1))
  all_goals have HF := Lib.hid ((hTw.setBytes2 (fun b hb => hb.2) hl' hcm' hb').weaken fun b hb => hb.1.setCell T 1 (.slice A' (xs.length + ys.length) c'))
  all_goals have HGF := Lib.hid (grown_set (grown_trans (grown_drew HG2.out) (grown_any hg' (some T))) 1 (.slice A' (xs.length + ys.length) c'))
  all_goals have HTT := Lib.hid (fun t (h : IsT W t T) => ((IsT.grown (w' := W.drew) h (row := none) ⟨rfl, rfl, rfl, Nat.le_refl _, fun _ _ _ => rfl⟩ (by simp)).grown hg' (by simp)).setCell T 1 (.slice A' (xs.length + ys.length) c'))
  all_goals clear hTw e1 e2 hown' hg' hb'
  all_goals go_wp2_with fail
  all_goals go_ret
  all_goals exact ⟨rfl, A', c', HF.out, HGF.out, fun t h => HTT.out t (HW0.out t h)⟩

theorem tape8_append (T : Nat) (room : Int) (xs ys : List Int) (f : Nat) (A2 : Option Addr) (c2 : Nat) (w : World) (h0 : 0 < room) (hT : Tape8 w T room xs f)
    (hx : xs.length ≤ 100000) (hy : 0 < ys.length) (hr : (xs.length : Int) + ys.length ≤ room) (hr2 : room ≤ 65536) (hB : BytesAt w A2 ys) :
    Calls Try.prog 24 #[.pointer (some ⟨T, 0, none⟩), .slice A2 ys.length c2] w fun e w' => e = .returned (.int .i64 0) ∧ Tape8 w' T room (xs ++ ys) f ∧ w.grownBy w' (some T) := by
  have hlt := hT.lt
  obtain ⟨ht, A, c, hp⟩ := hT
  have hne : ∀ b, IsT w 5 b → b ≠ T := fun b hb => hb.ne ht (by decide)
  exact (tape_append _ T room xs ys f A c A2 c2 w h0 hp hne hlt hx hy hr hr2 hB).mono fun e w' ⟨he, A', c', h1, h2, h3⟩ => ⟨he, ⟨h3 _ ht, A', c', h1⟩, h2⟩
end Go.Proofs.Ythpgfgnifbhjpaa
