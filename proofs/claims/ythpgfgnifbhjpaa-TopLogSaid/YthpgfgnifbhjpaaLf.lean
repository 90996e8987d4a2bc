/- wal: Write. -/
import Derived.Test.YthpgfgnifbhjpaaLb
import Derived.Test.YthpgfgnifbhjpaaLc
namespace Go.Proofs.Ythpgfgnifbhjpaa
open Go.RowKit
set_option linter.unusedVariables false

/-- A record's head and body, as bytes; and with its sum. -/
def headF (k : Int) (body : List Int) : List Int := ((body.length : Int) / 256) :: ((body.length : Int) % 256) :: k :: body
def recF (k : Int) (body : List Int) : List Int := headF k body ++ putF (sumF (headF k body))
theorem recF_len (k : Int) (body : List Int) : (recF k body).length = body.length + 7 := by
  simp [recF, headF, putF]
theorem headF_bytes {k : Int} {body : List Int} (h1 : 1 ≤ k) (h2 : k ≤ 255) (hb : Bytes body) (hl : body.length ≤ 1024) : Bytes (headF k body) := fun x hx => by
  simp only [headF, List.mem_cons] at hx
  rcases hx with rfl | rfl | rfl | hx
  · omega
  · omega
  · omega
  · exact hb x hx
theorem recF_bytes {k : Int} {body : List Int} (h1 : 1 ≤ k) (h2 : k ≤ 255) (hb : Bytes body) (hl : body.length ≤ 1024) : Bytes (recF k body) := fun x hx => by
  rcases List.mem_append.1 hx with h | h
  · exact headF_bytes h1 h2 hb hl x h
  · exact putF_bytes _ (sumF_lt _).1 (sumF_lt _).2 x h

theorem own_mono {W : World} {base base' : Nat} {e : TypeId} {size : Nat} {v : Value} {k : Nat} {xs : List Value} (h : W.ownsRow base e size v k xs) (hb : base' ≤ base) : W.ownsRow base' e size v k xs :=
  ⟨h.1, h.2.imp id fun ⟨g, cap, cur, e1, hbb, r⟩ => ⟨g, cap, cur, e1, Nat.le_trans hb hbb, r⟩⟩

set_option maxRecDepth 100000 in
set_option maxHeartbeats 2000000 in
theorem write_any (k : Int) (A : Option Addr) (body : List Int) (c : Nat) (w : World) (h1 : 1 ≤ k) (h2 : k ≤ 255) (hl : body.length ≤ 1024) (hb : Bytes body) (hA : BytesAt w A body) :
    Calls Try.prog 23 #[.agg #[.int .i64 k, .slice A body.length c]] w fun e w' => ∃ sv, e = .returned (.tuple #[sv, .int .i64 0]) ∧ w'.ownsRow w.heap.size 5 1 sv (recF k body).length ((recF k body).map (Value.int .u8)) ∧ Below w.heap.size w w' := by
  obtain ⟨w0, hw0⟩ : ∃ w0, w.alloc (.cells #[.int .i64 k, .slice A body.length c] 39) = w0 := ⟨_, rfl⟩
  have hz : w0.heap.size = w.heap.size + 1 := by rw [← hw0]; simp
  have hbox0 : w0.cell? ⟨w.heap.size, 0, none⟩ = some (.int .i64 k) := by rw [← hw0]; simp
  have hbox : w0.cell? ⟨w.heap.size, 1, none⟩ = some (.slice A body.length c) := by rw [← hw0]; simp
  have hBw : Below w.heap.size w w0 := by rw [← hw0]; exact (Below.refl _ _).alloc (Nat.le_refl _) _
  obtain ⟨w1, hw1⟩ : ∃ w1, w0.alloc (.cells #[.int .u8 ((body.length : Int) / 256), .int .u8 ((body.length : Int) % 256), .int .u8 k] 5) = w1 := ⟨_, rfl⟩
  have hown : w1.ownsRow (w.heap.size + 1) 5 1 (.slice (some ⟨w.heap.size + 1, 0, none⟩) 3 3) 3 (([(body.length : Int) / 256, (body.length : Int) % 256, k]).map (Value.int .u8)) := by
    rw [← hw1, ← hz]
    exact World.ownsRow_lit w0 #[.int .u8 ((body.length : Int) / 256), .int .u8 ((body.length : Int) % 256), .int .u8 k] 3 (Nat.le_refl _) (by decide) rfl
  have hb1 : Below w0.heap.size w0 w1 := hw1 ▸ below_alloc (Below.refl _ _) _
  have hB1 : Below w.heap.size w w1 := hBw.trans (hb1.mono hBw.size)
  have hA1 := hA.below hB1
  have f1 : w1.cell? ⟨w.heap.size, 1, none⟩ = some (.slice A body.length c) := (hb1.cell (p := ⟨w.heap.size, 1, none⟩) (show w.heap.size < _ by omega)).trans hbox
  have a1 : ¬ k < 1 := by omega
  have a2 : ¬ 255 < k := by omega
  have a3 : ¬ (1024 : Int) < (body.length : Int) := by omega
  have hbl : (body.length : Int) ≤ 1024 := by omega
  have hs1 := hb1.size
  have HO := Lib.hid hown; have HA1 := Lib.hid hA1; have HB1 := Lib.hid hB1
  clear hown hA1 hB1 hA
  go_enter Try.func23, Try.ntmps23
  go_wp2_with (at_builtin; go_must (refine wpList_append_bytes rfl _ _ rfl (w.heap.size + 1) _ [(body.length : Int) / 256, (body.length : Int) % 256, k] body rfl HO.out A body.length c rfl rfl HA1.out (by simp only [List.length_cons, List.length_nil]; omega) (by omega) ?_); intro v2 w2 hown2 hg2 hb2; go_must (
    have hh : [(body.length : Int) / 256, (body.length : Int) % 256, k] ++ body = headF k body := rfl
    rw [hh] at hown2
    have hby := headF_bytes h1 h2 hb hl
    have hlh : (headF k body).length ≤ 1027 := by simp [headF]; omega
    have hrec : headF k body ++ putF (sumF (headF k body)) = recF k body := rfl
    obtain ⟨hsum0, hsum1⟩ := sumF_lt (headF k body)
    generalize headF k body = hd at *
    obtain ⟨A2, c2, rfl, hl2, hc2, hb2y⟩ := bytes_of_own (P := fun _ => True) hown2 (fun _ _ => trivial)
    have hsm := sum_any A2 c2 hd w2 hb2y hby (by unfold maxLen; omega)
    have hB2 : Below w.heap.size w w2 := HB1.out.trans (hb2.mono (by omega))
    have hs2 := hb2.size
    generalize sumF hd = s at *
    have HO2 := Lib.hid hown2; have HS := Lib.hid hsm
    clear hown2 hsm hb2y hg2 hw0 hw1 hh hbox0 hbox f1 hb1 hBw hby HO HA1 HB1
    go_wp2_with fail
    refine HS.out.mono ?_
    rintro e w3 ⟨rfl, rfl⟩
    go_wp2_with fail
    refine (put_any s w2 hsum0 hsum1).mono ?_
    rintro e w4 ⟨sv4, rfl, hown4, hb4⟩
    have hB4 : Below w.heap.size w w4 := hB2.trans (hb4.mono hB2.size)
    have hown2' := HO2.out.kept (grown_of_below hb4 none) (own_none HO2.out)
    obtain ⟨A4, c4, rfl, hl4, hc4, hb4y⟩ := bytes_of_own (P := fun _ => True) hown4 (fun _ _ => trivial)
    have hs4 := hb4.size
    have HO4 := Lib.hid hown2'; have HY4 := Lib.hid hb4y; have HR := Lib.hid hrec
    clear hown2' hb4y hown4 hrec HO2 HS
    go_wp2_with (at_builtin; go_must (refine wpList_append_bytes rfl _ _ rfl (w.heap.size + 1) _ hd (putF s) rfl HO4.out A4 _ c4 rfl rfl HY4.out (by simp only [putF, List.length_cons, List.length_nil]; omega) (by omega) ?_); intro v5 w5 hown5 hg5 hb5; go_must (
      rw [HR.out] at hown5
      have HO5 := Lib.hid hown5
      clear hown5
      go_wp2_with fail
      go_ret2
      exact ⟨_, rfl, own_mono HO5.out (by omega), hB4.trans (hb5.mono (by omega))⟩))))
end Go.Proofs.Ythpgfgnifbhjpaa
