/- wal.Open. -/
import Derived.Test.YthpgfgnifbhjpaaLn
import Derived.Test.YthpgfgnifbhjpaaLh
namespace Go.Proofs.Ythpgfgnifbhjpaa
open Go.RowKit Go.Shelf
set_option linter.unusedVariables false

theorem recs_keep {w w' : World} {n₀ T : Nat} {A : Option Addr} {rs : List (Int × List Int)} (h : RecsP w (fun b => n₀ ≤ b) A rs) (hg : w.grownBy w' (some T)) (hT : T < n₀) : RecsP w' (fun b => n₀ ≤ b) A rs :=
  h.keep fun b hb hlt => ⟨hb, hg.block b hlt (by simp; omega)⟩

set_option maxRecDepth 100000 in
set_option maxHeartbeats 4000000 in
theorem open_any (N T : Nat) (room : Int) (xs : List Int) (f : Nat) (rs : List (Int × List Int)) (tail : List Int) (w : World) (h0 : 0 < room) (hN : N ≤ T) (hT : Tape8 w T room xs f)
    (hx : xs = catF rs ++ tail) (hrs : ∀ r ∈ rs, RecOk r) (hrl : rs.length ≤ 100) (ht : Tail tail) (hlen : xs.length ≤ 60000) :
    Calls Try.prog 6 #[.pointer (some ⟨T, 0, none⟩)] w fun e w' => ∃ L A c, e = .returned (.tuple #[.pointer (some ⟨L, 0, none⟩), .slice A rs.length c, .int .i64 0]) ∧ w.heap.size ≤ L ∧
      LogP w' L T w.heap.size rs.length ∧ Tape8 w' T room (catF rs) (catF rs).length ∧ RecsP w' (fun b => w.heap.size ≤ b) A rs ∧ Below N w w' := by
  have hTlt := hT.lt
  obtain ⟨hTt, A0, c0, hTP⟩ := id hT
  have hroom := tape_room T room w h0 hTP.1.1
  have hby := tape_bytes _ T room xs f A0 c0 w h0 hTP (by omega)
  have hle : (catF rs).length ≤ xs.length := by rw [hx, List.length_append]; omega
  have htk : xs.take (catF rs).length = catF rs := by rw [hx, List.take_left]
  have hs : ∀ r ∈ rs, r.2.length ≤ 1024 := fun r hr => (hrs r hr).2.2.1
  have HR := Lib.hid hroom; have HB := Lib.hid hby; have HX := Lib.hid hx; have HRS := Lib.hid hrs; have HTL := Lib.hid ht; have HT := Lib.hid hT; have HTK := Lib.hid htk
  have hrz : (room == 0) = false := by simp; omega
  clear hroom hby hx hrs ht htk hTP
  go_enter Try.func6, Try.ntmps6
  go_wp2_with (first
    | (go_at_call 14; refine HR.out.mono ?_; rintro e w0 ⟨rfl, rfl⟩)
    | (go_at_call 16; refine HB.out.mono ?_; rintro e w1 ⟨v, rfl, hown1, hb1⟩; obtain ⟨A1, c1, rfl, hl1, hm1, hB1⟩ := bytes_of_own (P := fun _ => True) hown1 (fun _ _ => trivial))
    | (go_at_call 15; refine (callsIn_wide.1 (read_in 3 (Nat.le_refl _) A1 c1 xs rs tail w1 HX.out HRS.out hrl HTL.out (by omega) hl1 hm1 hB1)).mono ?_; rintro e w2 ⟨A2, c2, rfl, hl2, hm2, hR2, hb2⟩; have hT2 := ((HT.out.below hb1).below hb2); have hz1 : w.heap.size ≤ w1.heap.size := hb1.size)
    | (go_at_call 17; refine (tape8_cut T room xs f (catF rs).length w2 h0 hT2 hle).mono ?_; rintro e w3 ⟨rfl, hT3, hg3⟩; have hR3 := recs_keep hR2 hg3 (by omega))
    | (go_at_call 18; refine (tape8_force T room _ _ w3 h0 hT3).mono ?_; rintro e w4 ⟨rfl, hT4, hg4⟩; have hR4 := recs_keep hR3 hg4 (by omega))
    | (go_at_call 19; refine (copies_any A2 rs c2 w4 _ hR4 (by omega) hs).mono ?_; rintro e w5 ⟨sv, ys, rfl, hown5, hone5, hb5⟩; obtain ⟨A5, c5, rfl⟩ := own_slice hown5))
  rw [HTK.out] at hT4
  have s2 := hb2.size
  have s3 := hg3.size
  have s4 := hg4.size
  have s5 := hb5.size
  have bN : Below N w w5 := ((((hb1.mono (by omega)).trans (hb2.mono (by omega))).trans ((Below.refl N w2).grown hg3 (by omega) (fun k e => by cases e; exact hN))).trans ((Below.refl N w3).grown hg4 (by omega) (fun k e => by cases e; exact hN))).trans (hb5.mono (by omega))
  have hba := below_alloc (Below.refl w5.heap.size w5) (.cells #[.pointer (some ⟨T, 0, none⟩), .slice A5 rs.length c5] 58)
  refine bodyPost_ret (v := .tuple #[.pointer (some ⟨w5.heap.size, 0, none⟩), .slice A2 rs.length c2, .int .i64 0]) (by simp [results, Try.f6]) rfl ?_
  refine ⟨w5.heap.size, A2, c2, rfl, by omega, ⟨⟨by simp, ⟨_, World.alloc_heap_new _ _⟩, by simp⟩, A5, rs.length, c5, ys, by simp, own_mono (World.ownsRow.alloc hown5 _) (by omega), hone5, Nat.le_refl _⟩, (hT4.below hb5).below hba, ?_, bN.trans (hba.mono (by omega))⟩
  exact ((hR4.below hb5).below hba).keep fun b hb hlt => ⟨Nat.le_trans hz1 hb, rfl⟩
end Go.Proofs.Ythpgfgnifbhjpaa
