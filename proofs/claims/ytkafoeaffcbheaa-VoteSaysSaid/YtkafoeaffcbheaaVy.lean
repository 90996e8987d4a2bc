/- vote.says: what a tree says, by recursion. -/
import Derived.Test.YtkafoeaffcbheaaVs
import Derived.Maps.AppendAt
import Derived.Laws.OwnMore
import Derived.RangeFuncBox
namespace Go.Proofs.Ytkafoeaffcbheaa
open Go.RowKit
set_option linter.unusedVariables false

/-- What each tree of a forest says. -/
def Fo.says : Fo → List Int
  | .nil => []
  | .cons v ks r => says3F (v :: ks.says) :: r.says
def saysT (v : Int) (ks : Fo) : Int := says3F (v :: ks.says)

theorem says_len : ∀ ks : Fo, ks.says.length = ks.len
  | .nil => rfl
  | .cons _ _ r => by simp [Fo.says, Fo.len, says_len r]
theorem len_le_size : ∀ ks : Fo, ks.len ≤ ks.size
  | .nil => Nat.le_refl _
  | .cons _ ks r => by have := len_le_size r; simp only [Fo.len, Fo.size]; omega

theorem grown_of_below {a w : World} (h : Below a.heap.size a w) (row : Option Nat) : a.grownBy w row := ⟨h.os, h.tape, h.output, h.size, fun i hi _ => h.block i hi⟩

theorem info_int : (Try.prog.info? 3).map (fun i => (i.zero, i.size, i.bytes)) = some (some (.int .i64 0), 1, 8) := by kernel_rfl

theorem intsAt_of_own {w : World} {base B n cap g : Nat} {xs : List Int} (h : w.ownsRow base 3 1 (.slice (some ⟨g, 0, none⟩) n cap) n (xs.map (Value.int .i64))) (hn : n = xs.length) (hg : g < B) :
    IntsAt w B (some ⟨g, 0, none⟩) xs := fun hp => ⟨g, 0, rfl, hg, fun i x hx => by
  have hi : i < xs.length := (List.getElem?_eq_some_iff.1 hx).1
  have := h.cellAt i (by omega)
  rw [Nat.zero_add, this, List.getElem?_map, hx]
  rfl⟩

set_option maxRecDepth 100000 in
set_option maxHeartbeats 2000000 in
theorem says_any : ∀ (s : Nat) (v : Int) (ks : Fo) (b off : Nat) (w : World), ks.size < s → ks.size ≤ 200 → NodeAt w w.heap.size b off v ks →
    Calls Try.prog 30 #[.pointer (some ⟨b, off, none⟩)] w fun e w' => e = .returned (.int .i64 (saysT v ks)) ∧ Below w.heap.size w w' := by
  intro s
  induction s with
  | zero => intro v ks b off w hs; omega
  | succ s ih =>
    intro v ks b off w hs hbig hat
    obtain ⟨c, A, hb, h0, h1, hl, hc, hk⟩ := hat
    obtain ⟨i0, hi, hz0, hz1, hz2⟩ := info_parts info_int
    have hlen := len_le_size ks
    go_enter Try.func30, Try.ntmps30
    go_wp2_with fail
    go_loopw [3, 15] (fun lv i wr => ∃ (k g cap : Nat) (got : List Int) (rest : Fo), i = .int .i64 k ∧ lv = .slice (some ⟨g, 0, none⟩) (k + 1) cap ∧ wr.ownsRow w.heap.size 3 1 (.slice (some ⟨g, 0, none⟩) (k + 1) cap) (k + 1) ((v :: got).map (Value.int .i64)) ∧
        KidsAt w w.heap.size A k rest ∧ k + rest.len = ks.len ∧ got.length = k ∧ got ++ rest.says = ks.says ∧ rest.size ≤ ks.size ∧ Below w.heap.size w wr) (fun _ i _ => ks.len - (intOf i).toNat)
    case atStart => exact ⟨0, w.heap.size, 1, [], ks, rfl, rfl, World.ownsRow_lit w #[.int .i64 v] 1 (Nat.le_refl _) (by decide) rfl, hk, by omega, rfl, rfl, Nat.le_refl _, (Below.refl _ _).alloc (Nat.le_refl _) _⟩
    case round =>
      obtain ⟨k, g, cap, got, rest, rfl, rfl, hown, hka, hkl, hgl, hsy, hsz, hB⟩ := hrel
      have hc3 : wr.cell? ⟨b, off + 1, none⟩ = some (.slice A ks.len c) := (hB.cell (p := ⟨b, off + 1, none⟩) hb).trans h1
      cases rest with
      | nil =>
        have hkl' : k = ks.len := by simpa [Fo.len] using hkl
        have hge : ¬ k < ks.len := by omega
        have hgl2 := (hown.lt g rfl)
        have hints : IntsAt wr wr.heap.size (some ⟨g, 0, none⟩) (v :: got) := intsAt_of_own hown (by simp [hgl]) hgl2.2
        have hs3 := says3_any (some ⟨g, 0, none⟩) cap (v :: got) wr hints (by simp only [List.length_cons, hgl]; unfold maxLen; omega)
        have hres : says3F (v :: got) = saysT v ks := by
          have := hsy
          simp only [Fo.says, List.append_nil] at this
          rw [saysT, ← this]
        rw [List.length_cons, hgl, hres] at hs3
        have HS := Lib.hid hs3
        clear hs3 hres hints hsy hgl hkl hkl' hown
        go_wp2_with (go_at_call 26; refine HS.out.mono ?_; clear HS; rintro e w' ⟨rfl, rfl⟩)
        go_ret
        exact ⟨rfl, hB⟩
      | cons v' ks' r =>
        obtain ⟨b', off', rfl, hn⟩ := hka.head
        simp only [Fo.len, Fo.size] at hkl hsz
        have hlt : k < ks.len := by omega
        have hn' : NodeAt wr wr.heap.size b' (off' + k * 2) v' ks' := hn.keep hB.size fun b o h => hB.cell (p := ⟨b, o, none⟩) h
        have hIH := ih v' ks' b' (off' + k * 2) wr (by omega) (by omega) hn'
        have HI := Lib.hid hIH
        have HSY := Lib.hid hsy
        have HGL := Lib.hid hgl
        have HKL := Lib.hid hkl
        have HKA := Lib.hid hka.2
        have hklt : k < 200 := by omega
        clear hIH hsy hgl hkl hka hn hn'
        go_wp2_with (first
          | (go_at_call 30; refine HI.out.mono ?_; clear HI; rintro e w1 ⟨rfl, hb1⟩; have hown1 := hown.kept (grown_of_below hb1 none) (.inr (by simp [Value.ownBlock])))
          | (at_builtin; go_must (refine wpList_append_own _ rfl _ _ 29 rfl w.heap.size 3 i0 (.int .i64 0) 1 8 Try.underlying29 hi hz0 hz1 hz2 rfl (by decide) _ _ _ rfl (hown1.alloc _) ⟨w1.heap.size, 0, none⟩ 1 1 [.int .i64 (saysT v' ks')] rfl rfl (cell_one_new _ _ _) (by simp [Value.oneCell']) (by unfold maxLen; omega) (by omega) (by have h5 := hB.size; have h6 := hb1.size; simp; omega) ?_; intro v2 w2 hown2 hg2 hcap2; obtain ⟨g2, cap2, rfl⟩ := ownsRow_succ hown2)))
        go_roundw
        case rel =>
          have hgB := (hown.lt g rfl).1
          refine ⟨k + 1, g2, cap2, got ++ [saysT v' ks'], r, by go_num, rfl, by simpa using hown2, HKA.out, by have := HKL.out; omega, by simp [HGL.out], ?_, by omega, ?_⟩
          · have := HSY.out
            simpa [Fo.says, saysT, List.append_assoc] using this
          · refine ((hB.trans (hb1.mono hB.size)).alloc (Nat.le_trans hB.size hb1.size) _).grown hg2 (by have h5 := hB.size; have h6 := hb1.size; simp; omega) fun j e => ?_
            have e' : (Value.slice (some ⟨g, 0, none⟩) (k + 1) cap).ownBlock = some j := e
            simp [Value.ownBlock] at e'
            omega
        case measure => simp [intOf]; omega
end Go.Proofs.Ytkafoeaffcbheaa
