/- The laws' own functions no and count: by recursion over a tree. -/
import Derived.Test.YtkafoeaffcbheaaVy
namespace Go.Proofs.Ytkafoeaffcbheaa
open Go.RowKit
set_option linter.unusedVariables false

def Fo.no : Fo → Bool
  | .nil => false
  | .cons v ks r => (v == 3 || ks.no) || r.no
/-- Is a vote of a tree No? -/
def noT (v : Int) (ks : Fo) : Bool := v == 3 || ks.no
theorem Fo.no_cons (v : Int) (ks r : Fo) : (Fo.cons v ks r).no = (noT v ks || r.no) := rfl

theorem ret_bool {a b : Bool} (h : b = a) : Ending.returned (.bool a) = .returned (.bool b) := by cases h; rfl

theorem KidsAt.head2 {w : World} {B i : Nat} {A : Option Addr} {v : Int} {ks r : Fo} (h : KidsAt w B A i (.cons v ks r)) :
    ∃ (b off c : Nat) (A' : Option Addr), A = some ⟨b, off, none⟩ ∧ b < B ∧ w.cell? ⟨b, off + i * 2, none⟩ = some (.int .i64 v) ∧
      w.cell? ⟨b, off + i * 2 + 1, none⟩ = some (.slice A' ks.len c) ∧ ks.len ≤ c ∧ c ≤ maxLen ∧ KidsAt w B A' 0 ks := h.1

set_option maxRecDepth 100000 in
set_option maxHeartbeats 2000000 in
theorem count_any : ∀ (s : Nat) (v : Int) (ks : Fo) (A : Option Addr) (c : Nat) (w : World), ks.size < s → ks.size ≤ 200 → ks.len ≤ c → c ≤ maxLen → KidsAt w w.heap.size A 0 ks →
    Calls Try.prog 19 #[.agg #[.int .i64 v, .slice A ks.len c]] w fun e w' => e = .returned (.int .i64 (ks.size + 1 : Nat)) ∧ Below w.heap.size w w' := by
  intro s
  induction s with
  | zero => intro v ks A c w hs; omega
  | succ s ih =>
    intro v ks A c w hs hbig hl hc hk
    have hlen := len_le_size ks
    obtain ⟨w0, hw0⟩ : ∃ w0, w.alloc (.cells #[.int .i64 v, .slice A ks.len c] 24) = w0 := ⟨_, rfl⟩
    have hz : w0.heap.size = w.heap.size + 1 := by rw [← hw0]; simp
    have hbox : w0.cell? ⟨w.heap.size, 1, none⟩ = some (.slice A ks.len c) := by rw [← hw0]; simp
    have hBw : Below w.heap.size w w0 := by rw [← hw0]; exact (Below.refl _ _).alloc (Nat.le_refl _) _
    go_enter Try.func19, Try.ntmps19
    go_wp2_with fail
    clear hw0
    go_loopw [3, 4] (fun nv i wr => ∃ (k : Nat) (got : Nat) (rest : Fo), i = .int .i64 k ∧ nv = .int .i64 (got + 1 : Nat) ∧
        KidsAt w w.heap.size A k rest ∧ k + rest.len = ks.len ∧ got + rest.size = ks.size ∧ Below (w.heap.size + 1) w0 wr) (fun _ i _ => ks.len - (intOf i).toNat)
    case atStart => exact ⟨0, 0, ks, rfl, rfl, hk, by omega, by omega, Below.refl _ _⟩
    case round =>
      obtain ⟨k, got, rest, rfl, rfl, hka, hkl, hgs, hB⟩ := hrel
      have hc3 : wr.cell? ⟨w.heap.size, 1, none⟩ = some (.slice A ks.len c) := (hB.cell (p := ⟨w.heap.size, 1, none⟩) (by simp)).trans hbox
      have hBB : Below w.heap.size w wr := hBw.trans (hB.mono (by omega))
      cases rest with
      | nil =>
        have hkl' : k = ks.len := by simpa [Fo.len] using hkl
        have hge : ¬ k < ks.len := by omega
        have hgs' : got = ks.size := by simpa [Fo.size] using hgs
        have HG := Lib.hid hgs'
        clear hgs hgs' hkl hkl'
        go_wp2
        go_ret
        exact ⟨ret_i64 (by rw [HG.out]), hBB⟩
      | cons v' ks' r =>
        obtain ⟨b', off', c', A', rfl, hb', hx0, hx1, hl', hc', hk'⟩ := hka.head2
        simp only [Fo.len, Fo.size] at hkl hgs
        have hlt : k < ks.len := by omega
        have hr0 : wr.cell? ⟨b', off' + k * 2, none⟩ = some (.int .i64 v') := (hBB.cell (p := ⟨b', off' + k * 2, none⟩) hb').trans hx0
        have hr1 : wr.cell? ⟨b', off' + k * 2 + 1, none⟩ = some (.slice A' ks'.len c') := (hBB.cell (p := ⟨b', off' + k * 2 + 1, none⟩) hb').trans hx1
        have hIH := ih v' ks' A' c' wr (by omega) (by omega) hl' hc' (hk'.keep hBB.size fun b o h => hBB.cell (p := ⟨b, o, none⟩) h)
        have HI := Lib.hid hIH
        have HKL := Lib.hid hkl
        have HGS := Lib.hid hgs
        have HKA := Lib.hid hka.2
        have hklt : k < 200 := by omega
        have hg2 : got < 200 := by omega
        have hs2 : ks'.size < 200 := by omega
        clear hIH hkl hgs hka hk' hx0 hx1 hk
        go_wp2_with (go_at_call 19; refine HI.out.mono ?_; clear HI; rintro e w1 ⟨rfl, hb1⟩)
        go_roundw
        case rel =>
          have h6 := HKL.out
          have h7 := HGS.out
          have h8 := HKA.out
          exact ⟨k + 1, got + ks'.size + 1, r, by go_num, by congr 1; omega, h8, by omega, by omega, hB.trans (hb1.mono (by have := hB.size; omega))⟩
        case measure => simp [intOf]; omega
set_option maxRecDepth 100000 in
set_option maxHeartbeats 2000000 in
theorem no_any : ∀ (s : Nat) (v : Int) (ks : Fo) (A : Option Addr) (c : Nat) (w : World), ks.size < s → ks.size ≤ 200 → ks.len ≤ c → c ≤ maxLen → KidsAt w w.heap.size A 0 ks →
    Calls Try.prog 28 #[.agg #[.int .i64 v, .slice A ks.len c]] w fun e w' => e = .returned (.bool (noT v ks)) ∧ Below w.heap.size w w' := by
  intro s
  induction s with
  | zero => intro v ks A c w hs; omega
  | succ s ih =>
    intro v ks A c w hs hbig hl hc hk
    have hlen := len_le_size ks
    obtain ⟨w0, hw0⟩ : ∃ w0, w.alloc (.cells #[.int .i64 v, .slice A ks.len c] 24) = w0 := ⟨_, rfl⟩
    have hz : w0.heap.size = w.heap.size + 1 := by rw [← hw0]; simp
    have hbox0 : w0.cell? ⟨w.heap.size, 0, none⟩ = some (.int .i64 v) := by rw [← hw0]; simp
    have hbox : w0.cell? ⟨w.heap.size, 1, none⟩ = some (.slice A ks.len c) := by rw [← hw0]; simp
    have hBw : Below w.heap.size w w0 := by rw [← hw0]; exact (Below.refl _ _).alloc (Nat.le_refl _) _
    by_cases v3 : v = 3
    · subst v3
      go_enter Try.func28, Try.ntmps28
      go_wp2_with fail
      go_ret
      exact ⟨rfl, hBw⟩
    have e3 : (v == 3) = false := by simpa using v3
    clear v3
    go_enter Try.func28, Try.ntmps28
    go_wp2_with fail
    clear hw0
    go_loopw [3] (fun i wr => ∃ (k : Nat) (rest : Fo), i = .int .i64 k ∧
        KidsAt w w.heap.size A k rest ∧ k + rest.len = ks.len ∧ rest.size ≤ ks.size ∧ rest.no = ks.no ∧ Below (w.heap.size + 1) w0 wr) (fun i _ => ks.len - (intOf i).toNat)
    case atStart => exact ⟨0, ks, rfl, hk, by omega, Nat.le_refl _, rfl, Below.refl _ _⟩
    case round =>
      obtain ⟨k, rest, rfl, hka, hkl, hgs, hno, hB⟩ := hrel
      have hc3 : wr.cell? ⟨w.heap.size, 1, none⟩ = some (.slice A ks.len c) := (hB.cell (p := ⟨w.heap.size, 1, none⟩) (by simp)).trans hbox
      have hBB : Below w.heap.size w wr := hBw.trans (hB.mono (by omega))
      cases rest with
      | nil =>
        have hkl' : k = ks.len := by simpa [Fo.len] using hkl
        have hge : ¬ k < ks.len := by omega
        have hno' : ks.no = false := hno.symm
        have HG := Lib.hid hno'
        clear hgs hno hno' hkl hkl'
        go_wp2
        go_ret
        exact ⟨ret_bool (by rw [noT, HG.out, e3]; rfl), hBB⟩
      | cons v' ks' r =>
        obtain ⟨b', off', c', A', rfl, hb', hx0, hx1, hl', hc', hk'⟩ := hka.head2
        simp only [Fo.len, Fo.size] at hkl hgs
        have hlt : k < ks.len := by omega
        have hr0 : wr.cell? ⟨b', off' + k * 2, none⟩ = some (.int .i64 v') := (hBB.cell (p := ⟨b', off' + k * 2, none⟩) hb').trans hx0
        have hr1 : wr.cell? ⟨b', off' + k * 2 + 1, none⟩ = some (.slice A' ks'.len c') := (hBB.cell (p := ⟨b', off' + k * 2 + 1, none⟩) hb').trans hx1
        have hIH := ih v' ks' A' c' wr (by omega) (by omega) hl' hc' (hk'.keep hBB.size fun b o h => hBB.cell (p := ⟨b, o, none⟩) h)
        have HI := Lib.hid hIH
        have HKL := Lib.hid hkl
        have HGS := Lib.hid hgs
        have HKA := Lib.hid hka.2
        have hklt : k < 200 := by omega
        have HNO := Lib.hid hno
        clear hIH hkl hgs hka hk' hx0 hx1 hk hno
        go_wp2_with (go_at_call 28; refine HI.out.mono ?_; clear HI; rintro e w1 ⟨rfl, hb1⟩)
        · have hh : noT v' ks' = true := by assumption
          go_ret
          exact ⟨ret_bool (by rw [noT, ← HNO.out, Fo.no_cons, hh]; simp), hBB.trans (hb1.mono hBB.size)⟩
        · have hh : noT v' ks' = false := by assumption
          have hh' := Lib.hid hh
          clear hh
          go_roundw
          case rel =>
            have h6 := HKL.out
            have h7 := HGS.out
            have h8 := HKA.out
            have h9 := HNO.out
            rw [Fo.no_cons, hh'.out, Bool.false_or] at h9
            exact ⟨k + 1, r, by go_num, h8, by omega, by omega, h9, hB.trans (hb1.mono (by have := hB.size; omega))⟩
          case measure => simp [intOf]; omega
end Go.Proofs.Ytkafoeaffcbheaa
