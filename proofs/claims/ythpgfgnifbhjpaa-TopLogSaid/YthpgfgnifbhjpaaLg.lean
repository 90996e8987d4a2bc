/- wal: records in memory; copies, made. -/
import Derived.Test.YthpgfgnifbhjpaaLf
import Derived.Deep.RegionHeld3
import Derived.Deep.RegionLaw
namespace Go.Proofs.Ythpgfgnifbhjpaa
open Go.RowKit
set_option linter.unusedVariables false

/-- Records (kind, body) that a slice holds, in blocks of a set. -/
def RecsP (w : World) (P : Nat → Prop) (A : Option Addr) (rs : List (Int × List Int)) : Prop :=
  0 < rs.length → ∃ b off, A = some ⟨b, off, none⟩ ∧ P b ∧ ∀ i r, rs[i]? = some r → ∃ A' c', w.cell? ⟨b, off + i * 2, none⟩ = some (.int .i64 r.1) ∧ w.cell? ⟨b, off + i * 2 + 1, none⟩ = some (.slice A' r.2.length c') ∧
    r.2.length ≤ c' ∧ c' ≤ maxLen ∧ BytesP w P A' r.2
theorem RecsP.keep {w w' : World} {P P' : Nat → Prop} {A : Option Addr} {rs : List (Int × List Int)} (h : RecsP w P A rs) (hP : ∀ b, P b → b < w.heap.size → P' b ∧ w'.heap[b]? = w.heap[b]?) : RecsP w' P' A rs := fun hp => by
  obtain ⟨b, off, e, hb, hc⟩ := h hp
  obtain ⟨x0, hx0⟩ : ∃ x0, rs[0]? = some x0 := ⟨rs[0], List.getElem?_eq_getElem hp⟩
  have hlt : b < w.heap.size := by
    obtain ⟨A', c', h0, _⟩ := hc 0 x0 hx0
    exact World.block_lt_of_cell? w _ h0
  obtain ⟨h1, h2⟩ := hP b hb hlt
  refine ⟨b, off, e, h1, fun i x hx => ?_⟩
  obtain ⟨A', c', h0, h0', hl, hm, hB⟩ := hc i x hx
  exact ⟨A', c', (World.cell?_of_block (a := ⟨b, off + i * 2, none⟩) h2).trans h0, (World.cell?_of_block (a := ⟨b, off + i * 2 + 1, none⟩) h2).trans h0', hl, hm, hB.keep hP⟩
theorem RecsP.below {w w' : World} {P : Nat → Prop} {A : Option Addr} {rs : List (Int × List Int)} (h : RecsP w P A rs) (hb : Below w.heap.size w w') : RecsP w' P A rs :=
  h.keep fun b hp hlt => ⟨hp, hb.block b hlt⟩

theorem info_rec : (Try.prog.info? 39).map (fun i => (i.zero, i.size, i.bytes)) = some (some (.agg #[.int .i64 0, .slice none 0 0]), 2, 32) := by kernel_rfl

theorem reads_rec (w : World) (k : Int) (A : Option Addr) (n c : Nat) (t : TypeId) : Reads (w.alloc (.cells #[.int .i64 k, .slice A n c] t)) (w.heap.size + 1) 2 (some ⟨w.heap.size, 0, none⟩) 1 [.int .i64 k, .slice A n c] :=
  ⟨rfl, fun _ => ⟨_, rfl, by simp, fun j u hu => by
    match j with
    | 0 => simp at hu; subst hu; simp [Addr.add]
    | 1 => simp at hu; subst hu; simp [Addr.add]
    | j + 2 => simp at hu⟩⟩
theorem below_cellOf {B : Nat} {w w' : World} (h : Below B w w') {b o : Nat} {u : Value} (hb : b < B) (hc : w.cell? ⟨b, o, none⟩ = some u) : w'.cell? ⟨b, o, none⟩ = some u := (h.cell (p := ⟨b, o, none⟩) hb).trans hc

theorem log_made (L T : Nat) (w : World) (hc : w.cell? ⟨L, 0, none⟩ = some (.pointer (some ⟨T, 0, none⟩))) :
    Calls Try.prog 22 #[.pointer (some ⟨L, 0, none⟩)] w fun e w' => e = .returned (.bool true) ∧ w = w' := by
  go_enter Try.func22, Try.ntmps22
  go_wp2
  go_ret
  exact ⟨rfl, rfl⟩

set_option maxRecDepth 100000 in
set_option maxHeartbeats 4000000 in
theorem copies_any (A : Option Addr) (rs : List (Int × List Int)) (c : Nat) (w : World) (P : Nat → Prop) (hA : RecsP w P A rs) (hn : rs.length ≤ 1000) (hs : ∀ r ∈ rs, r.2.length ≤ 1024) :
    Calls Try.prog 19 #[.slice A rs.length c] w fun e w' => ∃ sv ys, e = .returned sv ∧ w'.ownsRow w.heap.size 39 2 sv rs.length ys ∧ (∀ u ∈ ys, u.oneCell' = true) ∧ Below w.heap.size w w' := by
  obtain ⟨i0, hi, hz0, hz1, hz2⟩ := info_parts info_rec
  go_enter Try.func19, Try.ntmps19
  go_wp2
  go_loopw [3, 5, 8] (fun lv _ i wr => ∃ (k : Nat) (ys : List Value), k ≤ rs.length ∧ i = .int .i64 k ∧ wr.ownsRow w.heap.size 39 2 lv k ys ∧ (∀ u ∈ ys, u.oneCell' = true) ∧ Below w.heap.size w wr) (fun _ _ i _ => rs.length - (intOf i).toNat)
  case atStart => exact ⟨0, [], Nat.zero_le _, rfl, World.ownsRow_nil _ _ _ _, by simp, Below.refl _ _⟩
  case round =>
    obtain ⟨k, ys, hk, rfl, hown, hone, hB⟩ := hrel
    by_cases hlt : k < rs.length
    · obtain ⟨b, off, rfl, -, hc⟩ := hA (by omega)
      obtain ⟨A', c', hcw0, hcw1, hl', hc', hby⟩ := hc k _ (List.getElem?_eq_getElem hlt)
      have hsm := hs rs[k] (List.getElem_mem hlt)
      have hblt := World.block_lt_of_cell? w _ hcw0
      generalize rs[k] = r at hcw0 hcw1 hsm hby hl'
      obtain ⟨rk, rb⟩ := r
      simp only at hcw0 hcw1 hsm hby hl'
      have hcell0 := below_cellOf hB hblt hcw0
      have hcell1 := below_cellOf hB hblt hcw1
      have hkl : (k : Int) < (rs.length : Int) := by omega
      have hBs := hB.size
      have hba := below_alloc (Below.refl _ wr) (.cells #[.int .i64 rk, .slice A' rb.length c'] 39)
      have hBa : Below w.heap.size w (wr.alloc (.cells #[.int .i64 rk, .slice A' rb.length c'] 39)) := hB.trans (hba.mono hBs)
      have HG := Lib.hid (fun g e => (hown.lt g e).2)
      have HO := Lib.hid (hown.alloc (.cells #[.int .i64 rk, .slice A' rb.length c'] 39)); have H1 := Lib.hid hone; have HBY := Lib.hid hby.any; have HBa := Lib.hid hBa
      have n0 : (wr.alloc (.cells #[.int .i64 rk, .slice A' rb.length c'] 39)).cell? ⟨wr.heap.size, 0, none⟩ = some (.int .i64 rk) := by simp
      have n1 : (wr.alloc (.cells #[.int .i64 rk, .slice A' rb.length c'] 39)).cell? ⟨wr.heap.size, 1, none⟩ = some (.slice A' rb.length c') := by simp
      have nz : (wr.alloc (.cells #[.int .i64 rk, .slice A' rb.length c'] 39)).heap.size = wr.heap.size + 1 := by simp
      clear hc hcw0 hcw1 hown hone hby hA hba hBa
      go_wp2_with fail
      generalize wr.alloc (.cells #[.int .i64 rk, .slice A' rb.length c'] 39) = wa at *
      go_region_held3 (fun W => (W.cell? ⟨wr.heap.size, 0, none⟩ = some (.int .i64 rk) ∧ W.cell? ⟨wr.heap.size, 1, none⟩ = some (.slice A' rb.length c')) ∧ Below w.heap.size w W ∧ wr.heap.size < W.heap.size)
        (first | exact ⟨⟨n0, n1⟩, HBa.out.drew, by rw [show wa.drew.heap.size = wa.heap.size from rfl]; omega⟩ | exact hS1 | exact hS1a _ | exact hS2)
        (first
          | (go_at_call 28; refine (clone_any A' c' rb wa.drew (BytesP.drew (HBY.out.below HBa.out)) (by omega) hl').mono ?_; rintro e w2 ⟨v2, rfl, hown2, hb2⟩; obtain ⟨A5, c5, rfl, hl5, hc5, -⟩ := bytes_of_own (P := fun _ => True) hown2 (fun _ _ => trivial); have hO2 := Lib.hid (HO.out.drew.kept (grown_of_below hb2 none) (own_none HO.out)); have hs2 : wa.heap.size ≤ w2.heap.size := hb2.size; have hB2 := Lib.hid (HBa.out.drew.trans (hb2.mono (show w.heap.size ≤ wa.heap.size by omega))); have hS1 : (w2.cell? ⟨wr.heap.size, 0, none⟩ = some (.int .i64 rk) ∧ w2.cell? ⟨wr.heap.size, 1, none⟩ = some (.slice A' rb.length c')) ∧ Below w.heap.size w w2 ∧ wr.heap.size < w2.heap.size := ⟨⟨below_cellOf hb2 (show wr.heap.size < wa.heap.size by omega) n0, below_cellOf hb2 (show wr.heap.size < wa.heap.size by omega) n1⟩, hB2.out, by omega⟩; have hS1a : ∀ o, ((w2.alloc o).cell? ⟨wr.heap.size, 0, none⟩ = some (.int .i64 rk) ∧ (w2.alloc o).cell? ⟨wr.heap.size, 1, none⟩ = some (.slice A' rb.length c')) ∧ Below w.heap.size w (w2.alloc o) ∧ wr.heap.size < (w2.alloc o).heap.size := fun o => ⟨⟨below_cellOf (below_alloc (Below.refl _ w2) _) (by omega) hS1.1.1, below_cellOf (below_alloc (Below.refl _ w2) _) (by omega) hS1.1.2⟩, hB2.out.alloc (by omega) o, by simp; omega⟩)
          | (refine step_append_any _ rfl _ _ _ rfl w.heap.size 39 i0 _ 2 32 Try.underlying30 hi hz0 hz1 hz2 rfl (by omega) _ k ys rfl (hO2.out.alloc _) (w2.heap.size + 1) (some ⟨w2.heap.size, 0, none⟩) 1 1 [.int .i64 rk, .slice A5 rb.length c5] rfl (reads_rec w2 rk A5 rb.length c5 _) (by simp [Value.oneCell']) (by unfold maxLen; omega) (by omega) (by simp; omega) ?_; intro v3 w3 hown3 hg3 hob3; have hb3 := (Below.refl w.heap.size w2).alloc (by omega) (.cells #[.int .i64 rk, .slice A5 rb.length c5] 39) |>.grown hg3 (by simp; omega) (fun j e => (hO2.out.lt j e).1); have hS2 : (w3.cell? ⟨wr.heap.size, 0, none⟩ = some (.int .i64 rk) ∧ w3.cell? ⟨wr.heap.size, 1, none⟩ = some (.slice A' rb.length c')) ∧ Below w.heap.size w w3 ∧ wr.heap.size < w3.heap.size := ⟨⟨hg3.cell (below_cellOf (below_alloc (Below.refl _ w2) _) (by omega) hS1.1.1) (fun e => Nat.lt_irrefl wr.heap.size (HG.out _ e.symm)), hg3.cell (below_cellOf (below_alloc (Below.refl _ w2) _) (by omega) hS1.1.2) (fun e => Nat.lt_irrefl wr.heap.size (HG.out _ e.symm))⟩, hB2.out.trans hb3, by have := hg3.size; simp at this; omega⟩))
      have HO3 := Lib.hid hown3; have HB3 := Lib.hid (hB2.out.trans hb3)
      clear hown3 hg3 hob3 hb3 hS1 hS2 hb2 hown2 hS1a
      go_wp2_with fail
      go_roundw
      case rel =>
        refine ⟨k + 1, _, by omega, by go_num, HO3.out, fun u hu => ?_, HB3.out⟩
        rcases List.mem_append.1 hu with h | h
        · exact H1.out u h
        · simp only [List.mem_cons, List.not_mem_nil, or_false] at h
          rcases h with rfl | rfl <;> rfl
      case measure => simp [intOf]; omega
    · have hkl : ¬ (k : Int) < (rs.length : Int) := by omega
      obtain rfl : k = rs.length := by omega
      have HO := Lib.hid hown; have H1 := Lib.hid hone
      clear hown hone
      go_wp2
      go_ret
      exact ⟨_, rfl, ys, HO.out, H1.out, hB⟩
end Go.Proofs.Ythpgfgnifbhjpaa
