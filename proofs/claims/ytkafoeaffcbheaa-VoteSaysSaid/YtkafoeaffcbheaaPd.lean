/- The reference's Right, Says, told, Told, Flows; two lists of numbers held against each other. -/
import Derived.Test.YtkafoeaffcbheaaPc
import Derived.Test.YtkafoeaffcbheaaVm
import Derived.Deep.QuietTactic
import Derived.BigQuiet
import Derived.WalkSmall
namespace Go.Proofs.Ytkafoeaffcbheaa
open Go.RowKit
set_option linter.unusedVariables false

set_option maxHeartbeats 1000000 in
theorem ints_any (A : Option Addr) (c : Nat) (A2 : Option Addr) (c2 : Nat) (xs : List Int) (w : World) (h1 : IntsAt w w.heap.size A xs) (h2 : IntsAt w w.heap.size A2 xs) (hm : xs.length ≤ 1000) :
    Calls Try.prog 24 #[.slice A xs.length c, .slice A2 xs.length c2] w fun e w' => e = .returned (.bool true) ∧ Below w.heap.size w w' := by
  have H1 := Lib.hid h1; have H2 := Lib.hid h2
  clear h1 h2
  go_enter Try.func24, Try.ntmps24
  go_wp2
  go_loopw [5] (fun i wr => ∃ (k : Nat), k ≤ xs.length ∧ i = .int .i64 k ∧ Below w.heap.size w wr) (fun i _ => xs.length - (intOf i).toNat)
  case atStart => exact ⟨0, Nat.zero_le _, rfl, Below.refl _ _⟩
  case round =>
    obtain ⟨k, hk, rfl, hB⟩ := hrel
    by_cases hlt : k < xs.length
    · obtain ⟨b, off, rfl, hb, hc⟩ := H1.out (by omega)
      obtain ⟨b2, off2, rfl, hb2, hc2⟩ := H2.out (by omega)
      have hx : xs[k]? = some xs[k] := List.getElem?_eq_getElem hlt
      have hcell := (hB.cell (p := ⟨b, off + k, none⟩) hb).trans (hc k _ hx)
      have hcell2 := (hB.cell (p := ⟨b2, off2 + k, none⟩) hb2).trans (hc2 k _ hx)
      generalize xs[k] = x at hcell hcell2
      clear hc hc2 hx
      have hkl : (k : Int) < (xs.length : Int) := by omega
      have hk0 : (0 : Int) ≤ (k : Int) := by omega
      have HB := Lib.hid hB
      clear hB
      go_wp2_with fail
      go_quiet (fail)
      go_wp2
      go_roundw
      case rel => exact ⟨k + 1, by omega, by go_num, below_drewN HB.out _⟩
      case measure => simp [intOf]; omega
    · have : ¬ (k : Int) < (xs.length : Int) := by omega
      go_wp2
      go_ret
      exact ⟨rfl, hB⟩

def okV (x : Int) : Bool := decide (1 ≤ x) && decide (x ≤ 3)
theorem all_ok (xs : List Int) (k : Nat) (hk : k ≤ xs.length) (h : (xs.drop k).all okV = xs.all okV) (hl : k = xs.length) : xs.all okV = true := by
  rw [← h, hl, List.drop_length]; rfl

set_option maxRecDepth 100000 in
set_option maxHeartbeats 2000000 in
theorem refRight_any (v : Int) (ks : Fo) (A : Option Addr) (c : Nat) (w : World) (hbig : ks.size ≤ 199) (hl : ks.len ≤ c) (hc : c ≤ maxLen) (hk : KidsAt w w.heap.size A 0 ks) :
    Calls Try.prog 25 #[.agg #[.int .i64 v, .slice A ks.len c]] w fun e w' => e = .returned (.bool (rightB v ks)) ∧ Below w.heap.size w w' := by
  rw [← refRight_eq]
  obtain ⟨w0, hw0⟩ : ∃ w0, w.alloc (.cells #[.int .i64 v, .slice A ks.len c] 44) = w0 := ⟨_, rfl⟩
  have hz : w0.heap.size = w.heap.size + 1 := by rw [← hw0]; simp
  have hbox0 : w0.cell? ⟨w.heap.size, 0, none⟩ = some (.int .i64 v) := by rw [← hw0]; simp
  have hbox : w0.cell? ⟨w.heap.size, 1, none⟩ = some (.slice A ks.len c) := by rw [← hw0]; simp
  have hBw : Below w.heap.size w w0 := by rw [← hw0]; exact (Below.refl _ _).alloc (Nat.le_refl _) _
  have hk0 : KidsAt w0 w0.heap.size A 0 ks := hk.keep (w' := w0) hBw.size fun b o hb => hBw.cell (p := ⟨b, o, none⟩) hb
  have hle := cnt2_le ks 64 1 1
  have h1 := refCount_any (ks.size + 1) v ks A c 64 w0 (by omega) (by omega) (Nat.le_refl _) hl hc hk0
  rw [show ((64 : Nat) : Int) = 64 from rfl] at h1
  have h2 : ∀ W, Below w0.heap.size w0 W → _ := fun W hW => votes_any (ks.size + 1) v ks A c W (by omega) (by omega) hl hc (hk0.keep (w' := W) hW.size fun b o hb => hW.cell (p := ⟨b, o, none⟩) hb)
  have hvl : (v :: ks.votes).length ≤ 200 := by simp only [List.length_cons, votes_size]; omega
  have hR : refRight v ks = (decide ((ks.cnt2 64 1 1).1 ≤ 64) && decide ((ks.cnt2 64 1 1).2 ≤ 8) && (v :: ks.votes).all okV) := rfl
  generalize ks.cnt2 64 1 1 = p at hle h1 hR
  obtain ⟨n, d⟩ := p
  simp only at hle h1 hR
  generalize v :: ks.votes = xs at h2 hvl hR
  generalize refRight v ks = R at hR ⊢
  have hn : n ≤ 201 := by omega
  have hd : d ≤ 201 := by omega
  have H1 := Lib.hid h1; have H2 := Lib.hid h2; have HR := Lib.hid hR
  clear h1 h2 hR hk hk0 hle
  go_enter Try.func25, Try.ntmps25
  go_wp2_with fail
  refine H1.out.mono ?_
  rintro e w1 ⟨rfl, hb1⟩
  have g0 := hb1.cellOf (by omega) hbox0
  have g1 := hb1.cellOf (by omega) hbox
  have HB1 := Lib.hid hb1
  clear hb1 hbox0 hbox
  by_cases hn64 : n ≤ 64
  · by_cases hd8 : d ≤ 8
    · have e1 : ¬ (64 : Int) < (n : Int) := by omega
      have e2 : ¬ (8 : Int) < (d : Int) := by omega
      have hRx : R = xs.all okV := by rw [HR.out]; simp [hn64, hd8]
      clear HR H1
      go_wp2_with fail
      refine (H2.out w1 HB1.out).mono ?_
      rintro e w2 ⟨A2, c2, rfl, hc1, hc2, hin, hb2⟩
      have hBB : Below w.heap.size w w2 := hBw.trans ((HB1.out.trans (hb2.mono HB1.out.size)).mono hBw.size)
      have HIN := Lib.hid hin; have HBB := Lib.hid hBB; have HRX := Lib.hid hRx
      clear hin hBB hb2 hRx g0 g1 H2
      go_wp2_with fail
      go_loop [6] (fun i => ∃ (k : Nat), k ≤ xs.length ∧ i = .int .i64 k ∧ (xs.drop k).all okV = R) (fun i => xs.length - (intOf i).toNat)
      case atStart => exact ⟨0, Nat.zero_le _, rfl, HRX.out.symm⟩
      case round =>
        obtain ⟨k, hk, rfl, hs⟩ := hrel
        by_cases hlt : k < xs.length
        · obtain ⟨b, off, rfl, hb, hc⟩ := HIN.out (by omega)
          have hx : xs[k]? = some xs[k] := List.getElem?_eq_getElem hlt
          have hcell := hc k _ hx
          rw [List.drop_eq_getElem_cons hlt, List.all_cons] at hs
          generalize xs[k] = x at hs hcell hx
          have HS := Lib.hid hs
          clear hs hx hc
          have hkl : (k : Int) < (xs.length : Int) := by omega
          by_cases x1 : x < 1
          · have hF : R = false := by rw [← HS.out, show okV x = false by simp [okV]; omega]; rfl
            have HF := Lib.hid hF
            clear hF
            go_wp2
            go_ret
            exact ⟨ret_bool HF.out, HBB.out⟩
          · by_cases x3 : 3 < x
            · have hF : R = false := by rw [← HS.out, show okV x = false by simp [okV]; omega]; rfl
              have HF := Lib.hid hF
              clear hF
              go_wp2
              go_ret
              exact ⟨ret_bool HF.out, HBB.out⟩
            · have hT : (xs.drop (k + 1)).all okV = R := by rw [← HS.out, show okV x = true by simp [okV]; omega]; rfl
              have HT := Lib.hid hT
              clear hT
              go_wp2
              go_round
              case rel => exact ⟨k + 1, by omega, by go_num, HT.out⟩
              case measure => simp [intOf]; omega
        · have hk2 : k = xs.length := by omega
          have hT : R = true := by rw [← hs, hk2, List.drop_length]; rfl
          have HT := Lib.hid hT
          clear hT hs hk2
          go_wp2
          go_ret
          exact ⟨ret_bool HT.out, HBB.out⟩
    · have e1 : ¬ (64 : Int) < (n : Int) := by omega
      have e2 : (8 : Int) < (d : Int) := by omega
      have hF : R = false := by rw [HR.out]; simp [hd8]
      have HF := Lib.hid hF
      clear HR H1 H2 hF
      go_wp2
      go_ret
      exact ⟨ret_bool HF.out, hBw.trans (HB1.out.mono hBw.size)⟩
  · have e1 : (64 : Int) < (n : Int) := by omega
    have hF : R = false := by rw [HR.out]; simp [hn64]
    have HF := Lib.hid hF
    clear HR H1 H2 hF
    go_wp2
    go_ret
    exact ⟨ret_bool HF.out, hBw.trans (HB1.out.mono hBw.size)⟩

set_option maxRecDepth 100000 in
set_option maxHeartbeats 1000000 in
theorem refSays_no {v : Int} {ks : Fo} (h : rightB v ks = false) (hbig : ks.size ≤ 199) {A : Option Addr} {c : Nat} (w : World) (hl : ks.len ≤ c) (hc : c ≤ maxLen) (hk : KidsAt w w.heap.size A 0 ks) :
    Calls Try.prog 21 #[.agg #[.int .i64 v, .slice A ks.len c]] w fun e w' => e = .returned (.tuple #[.int .i64 0, .int .i64 1]) ∧ Below w.heap.size w w' := by
  obtain ⟨w0, hw0⟩ : ∃ w0, w.alloc (.cells #[.int .i64 v, .slice A ks.len c] 44) = w0 := ⟨_, rfl⟩
  have hbox0 : w0.cell? ⟨w.heap.size, 0, none⟩ = some (.int .i64 v) := by rw [← hw0]; simp
  have hbox : w0.cell? ⟨w.heap.size, 1, none⟩ = some (.slice A ks.len c) := by rw [← hw0]; simp
  have hBw : Below w.heap.size w w0 := by rw [← hw0]; exact (Below.refl _ _).alloc (Nat.le_refl _) _
  have hr := refRight_any v ks A c w0 hbig hl hc (hk.keep (w' := w0) hBw.size fun b o hb => hBw.cell (p := ⟨b, o, none⟩) hb)
  rw [h] at hr
  have HR := Lib.hid hr
  clear hr h hk
  go_enter Try.func21, Try.ntmps21
  go_wp2_with (go_at_call 25; refine HR.out.mono ?_; clear HR; rintro e w1 ⟨rfl, hb1⟩)
  go_ret2
  exact ⟨rfl, hBw.trans (hb1.mono hBw.size)⟩

set_option maxRecDepth 100000 in
set_option maxHeartbeats 1000000 in
theorem refSays_yes {v : Int} {ks : Fo} (h : rightB v ks = true) {A : Option Addr} {c : Nat} (w : World) (hl : ks.len ≤ c) (hc : c ≤ maxLen) (hk : KidsAt w w.heap.size A 0 ks) :
    Calls Try.prog 21 #[.agg #[.int .i64 v, .slice A ks.len c]] w fun e w' => e = .returned (.tuple #[.int .i64 (saysT v ks), .int .i64 0]) ∧ Below w.heap.size w w' := by
  have hsz := right_size h
  obtain ⟨w0, hw0⟩ : ∃ w0, w.alloc (.cells #[.int .i64 v, .slice A ks.len c] 44) = w0 := ⟨_, rfl⟩
  have hz : w0.heap.size = w.heap.size + 1 := by rw [← hw0]; simp
  have hbox0 : w0.cell? ⟨w.heap.size, 0, none⟩ = some (.int .i64 v) := by rw [← hw0]; simp
  have hbox : w0.cell? ⟨w.heap.size, 1, none⟩ = some (.slice A ks.len c) := by rw [← hw0]; simp
  have hBw : Below w.heap.size w w0 := by rw [← hw0]; exact (Below.refl _ _).alloc (Nat.le_refl _) _
  have hk0 : KidsAt w0 w0.heap.size A 0 ks := hk.keep (w' := w0) hBw.size fun b o hb => hBw.cell (p := ⟨b, o, none⟩) hb
  have hr := refRight_any v ks A c w0 (by omega) hl hc hk0
  rw [h] at hr
  have hv : ∀ W, Below w0.heap.size w0 W → _ := fun W hW => votes_any (ks.size + 1) v ks A c W (by omega) (by omega) hl hc (hk0.keep (w' := W) hW.size fun b o hb => hW.cell (p := ⟨b, o, none⟩) hb)
  have hvl : (v :: ks.votes).length ≤ maxLen := by simp only [List.length_cons, votes_size]; unfold maxLen; omega
  rw [saysT_votes]
  generalize v :: ks.votes = xs at hv hvl ⊢
  have HR := Lib.hid hr; have HV := Lib.hid hv
  clear hr hv h hk hk0
  go_enter Try.func21, Try.ntmps21
  go_wp2_with fail
  refine HR.out.mono ?_
  rintro e w1 ⟨rfl, hb1⟩
  have g0 := hb1.cellOf (by omega) hbox0
  have g1 := hb1.cellOf (by omega) hbox
  have HB1 := Lib.hid hb1
  clear hb1 hbox0 hbox
  go_wp2_with fail
  refine (HV.out w1 HB1.out).mono ?_
  rintro e w2 ⟨A2, c2, rfl, hc1, hc2, hin, hb2⟩
  go_wp2_with fail
  refine (refSays3_any A2 c2 xs w2 hin hvl).mono ?_
  rintro e w3 ⟨rfl, rfl⟩
  go_wp2_with fail
  go_ret2
  exact ⟨rfl, hBw.trans ((HB1.out.trans (hb2.mono HB1.out.size)).mono hBw.size)⟩

set_option maxRecDepth 100000 in
set_option maxHeartbeats 4000000 in
theorem refTold_any : ∀ (s : Nat) (v : Int) (ks : Fo) (A : Option Addr) (c n : Nat) (w : World), ks.size < s → n + 1 + ks.size ≤ 200 → ks.len ≤ c → c ≤ maxLen → KidsAt w w.heap.size A 0 ks →
    Calls Try.prog 34 #[.agg #[.int .i64 v, .slice A ks.len c], .int .i64 n] w fun e w' =>
      ∃ A2 c2, e = .returned (.tuple #[.slice A2 (refTold (n + 1) ks).length c2, .int .i64 (n + 1 + ks.size : Nat)]) ∧ (refTold (n + 1) ks).length ≤ c2 ∧ c2 ≤ maxLen ∧ IntsAt w' w'.heap.size A2 (refTold (n + 1) ks) ∧ Below w.heap.size w w' := by
  intro s
  induction s with
  | zero => intro v ks A c n w hs; omega
  | succ s ih =>
    intro v ks A c n w hs hbig hl hc hk
    have hlen := len_le_size ks
    obtain ⟨w0, hw0⟩ : ∃ w0, w.alloc (.cells #[.int .i64 v, .slice A ks.len c] 44) = w0 := ⟨_, rfl⟩
    have hz : w0.heap.size = w.heap.size + 1 := by rw [← hw0]; simp
    have hbox : w0.cell? ⟨w.heap.size, 1, none⟩ = some (.slice A ks.len c) := by rw [← hw0]; simp
    have hBw : Below w.heap.size w w0 := by rw [← hw0]; exact (Below.refl _ _).alloc (Nat.le_refl _) _
    go_enter Try.func34, Try.ntmps34
    go_wp2_with fail
    clear hw0
    go_loopw [1, 6, 7, 8, 9] (fun av lv i _ _ wr => ∃ (k m : Nat) (got : List Int) (rest : Fo), i = .int .i64 k ∧ av = .int .i64 m ∧ wr.ownsRow (w.heap.size + 1) 3 1 lv got.length (got.map (Value.int .i64)) ∧
        KidsAt w w.heap.size A k rest ∧ k + rest.len = ks.len ∧ got ++ refTold m rest = refTold (n + 1) ks ∧ rest.size ≤ ks.size ∧ m + rest.size = n + 1 + ks.size ∧ Below (w.heap.size + 1) w0 wr) (fun _ _ i _ _ _ => ks.len - (intOf i).toNat)
    case atStart => exact ⟨0, n + 1, [], ks, rfl, by go_num, World.ownsRow_nil _ _ _ _, hk, by omega, rfl, Nat.le_refl _, rfl, Below.refl _ _⟩
    case round =>
      obtain ⟨k, m, got, rest, rfl, rfl, hown, hka, hkl, hsy, hrs, hsz, hB⟩ := hrel
      have hc3 : wr.cell? ⟨w.heap.size, 1, none⟩ = some (.slice A ks.len c) := (hB.cell (p := ⟨w.heap.size, 1, none⟩) (by simp)).trans hbox
      have hBB : Below w.heap.size w wr := hBw.trans (hB.mono (by omega))
      cases rest with
      | nil =>
        have hkl' : k = ks.len := by simpa [Fo.len] using hkl
        have hge : ¬ k < ks.len := by omega
        have hm' : m = n + 1 + ks.size := by simpa [Fo.size] using hsz
        simp only [refTold, List.append_nil] at hsy
        have HSY := Lib.hid hsy
        obtain ⟨A2, c2, rfl, h1, h2, h3⟩ := ints_of_own hown
        have H3 := Lib.hid h3
        have H1 := Lib.hid h1
        have HM := Lib.hid hm'
        clear hkl hkl' hown h3 h1 hm' hsz hsy
        go_wp2
        go_ret2
        exact ⟨A2, c2, by rw [← HSY.out, ← HM.out]; rfl, by rw [← HSY.out]; exact H1.out, h2, by rw [← HSY.out]; exact H3.out, hBB⟩
      | cons v' ks' r =>
        obtain ⟨b', off', c', A', rfl, hb', hx0, hx1, hl', hc', hk'⟩ := hka.head2
        simp only [Fo.len, Fo.size] at hkl hsz hrs
        have hlt : k < ks.len := by omega
        have hr0 : wr.cell? ⟨b', off' + k * 2, none⟩ = some (.int .i64 v') := (hBB.cell (p := ⟨b', off' + k * 2, none⟩) hb').trans hx0
        have hr1 : wr.cell? ⟨b', off' + k * 2 + 1, none⟩ = some (.slice A' ks'.len c') := (hBB.cell (p := ⟨b', off' + k * 2 + 1, none⟩) hb').trans hx1
        have hkw : KidsAt wr wr.heap.size A' 0 ks' := hk'.keep hBB.size fun b o h => hBB.cell (p := ⟨b, o, none⟩) h
        have hV := votes_any (ks'.size + 1) v' ks' A' c' wr (by omega) (by omega) hl' hc' hkw
        have hIH : ∀ W, Below w.heap.size w W → _ := fun W hW => ih v' ks' A' c' m W (by omega) (by omega) hl' hc' (hk'.keep (w' := W) hW.size fun b o h => hW.cell (p := ⟨b, o, none⟩) h)
        have hvl : (v' :: ks'.votes).length ≤ maxLen := by simp only [List.length_cons, votes_size]; unfold maxLen; omega
        have hS : ∀ A2 c2 W, IntsAt W W.heap.size A2 (v' :: ks'.votes) → Calls Try.prog 27 #[.slice A2 (v' :: ks'.votes).length c2] W fun e w' => e = .returned (.int .i64 (saysT v' ks')) ∧ W = w' := fun A2 c2 W hW => by
          rw [saysT_votes]; exact refSays3_any A2 c2 _ W hW hvl
        have hg1 := refTold_len ks' (m + 1)
        have hgl : got.length + 1 + (refTold (m + 1) ks').length ≤ 1000 := by
          have h7 := congrArg List.length hsy
          have h8 := refTold_len ks (n + 1)
          simp only [List.length_append] at h7
          omega
        have hbw : b' < wr.heap.size := Nat.lt_of_lt_of_le hb' hBB.size
        have hwr : w.heap.size + 1 ≤ wr.heap.size := by have := hB.size; omega
        simp only [refTold] at hsy
        generalize v' :: ks'.votes = xs at hV hS hvl
        generalize saysT v' ks' = sv at hS hsy
        generalize refTold (m + 1) ks' = ts at hIH hsy hgl hg1
        have HI := Lib.hid hIH; have HV := Lib.hid hV; have HS := Lib.hid hS
        have HSY := Lib.hid hsy
        have HKL := Lib.hid hkl
        have HKA := Lib.hid hka.2
        have HSZ := Lib.hid hsz
        have HOW := Lib.hid hown
        have HGL := Lib.hid hgl
        have hklt : k < 200 := by omega
        have hmlt : m < 200 := by omega
        have hsm : ks'.size < 200 := by omega
        clear hIH hV hS hsy hkl hka hk' hx0 hx1 hk hown hsz hkw hgl hg1 hvl
        go_wp2_with fail
        refine HV.out.mono ?_
        rintro e w1 ⟨A2, c2, rfl, hc1, hc2, hin, hb1⟩
        have hown1 := HOW.out.kept (grown_of_below hb1 none) (own_none HOW.out)
        have g0 := hb1.cellOf hbw hr0
        have g1 := hb1.cellOf hbw hr1
        have g3 := hb1.cellOf (by omega) hc3
        have hw1 := hb1.size
        have HO1 := Lib.hid hown1; have HB1 := Lib.hid hb1
        clear hown1 hb1 hr0 hr1 hc3
        go_wp2_with fail
        refine (HS.out A2 c2 w1 hin).mono ?_
        rintro e w1' ⟨rfl, rfl⟩
        by_cases hs2 : sv = 2
        · subst hs2
          go_wp2_with fail
          refine (HI.out w1 (hBB.trans (HB1.out.mono hBB.size))).mono ?_
          rintro e w3 ⟨A3, c3, rfl, -, -, hin3, hb3⟩
          have hown3 := HO1.out.kept (grown_of_below hb3 none) (own_none HO1.out)
          have hw3 := hb3.size
          have HO3 := Lib.hid hown3; have HIN := Lib.hid hin3; have HB3 := Lib.hid hb3
          clear hown3 hin3 hin hb3
          go_wp2_with (at_builtin; go_must (refine wpList_append_ints _ rfl _ _ rfl (w.heap.size + 1) _ got ts rfl HO3.out _ _ _ _ rfl rfl HIN.out (by have := HGL.out; omega) (by omega) ?_; intro v2 w2 hown2 hb2))
          go_roundw
          case rel =>
            refine ⟨k + 1, m + 1 + ks'.size, got ++ ts, r, by go_num, rfl, hown2, HKA.out, by have := HKL.out; omega, ?_, by omega, by have := HSZ.out; omega, (((hB.trans (HB1.out.mono (by omega))).trans (HB3.out.mono (by omega))).trans hb2)⟩
            have := HSY.out
            simpa [List.append_assoc] using this
          case measure => simp [intOf]; omega
        · have hs2' : (sv != 2) = true := by simpa using hs2
          have HNE := Lib.hid hs2
          clear hs2
          have hone : IntsAt (w1.alloc (.cells #[.int .i64 (m : Int)] 3)) (w1.heap.size + 1) (some ⟨w1.heap.size, 0, none⟩) [(m : Int)] := intsAt_one _ _ _
          have HONE := Lib.hid hone
          have hbA := below_alloc (Below.refl _ w1) (.cells #[.int .i64 (m : Int)] 3)
          have HBA := Lib.hid hbA
          clear hone hbA
          go_wp2_with (at_builtin; go_must (refine wpList_append_ints _ rfl _ _ rfl (w.heap.size + 1) _ got [(m : Int)] rfl (HO1.out.alloc _) _ _ _ _ rfl rfl HONE.out (by have := HGL.out; simp only [List.length_cons, List.length_nil]; omega) (by have := HBA.out.size; omega) ?_; intro v2 w2 hown2 hb2; have hbX := (HBA.out.mono (show w.heap.size + 1 ≤ w1.heap.size by omega)).trans hb2; have q0 := hb2.cellOf (by omega) (HBA.out.cellOf (by omega) g0); have q1 := hb2.cellOf (by omega) (HBA.out.cellOf (by omega) g1); have q3 := hb2.cellOf (by omega) (HBA.out.cellOf (by omega) g3)))
          have hw2 := hbX.size
          have hBA : Below w.heap.size w w2 := hBB.trans ((HB1.out.mono hBB.size).trans (hbX.mono (by omega)))
          have HO2 := Lib.hid hown2; have HBX := Lib.hid hbX
          clear hown2 hbX hb2
          refine (HI.out w2 hBA).mono ?_
          rintro e w3 ⟨A3, c3, rfl, -, -, hin3, hb3⟩
          have hown3 := HO2.out.kept (grown_of_below hb3 none) (own_none HO2.out)
          have hw3 := hb3.size
          have HO3 := Lib.hid hown3; have HIN := Lib.hid hin3; have HB3 := Lib.hid hb3
          clear hown3 hin3 hin hb3 q0 q1 q3 g0 g1 g3
          go_wp2_with (at_builtin; go_must (refine wpList_append_ints _ rfl _ _ rfl (w.heap.size + 1) _ (got ++ [(m : Int)]) ts rfl HO3.out _ _ _ _ rfl rfl HIN.out (by have := HGL.out; simp only [List.length_append, List.length_cons, List.length_nil]; omega) (by omega) ?_; intro v4 w4 hown4 hb4))
          go_roundw
          case rel =>
            refine ⟨k + 1, m + 1 + ks'.size, (got ++ [(m : Int)]) ++ ts, r, by go_num, rfl, hown4, HKA.out, by have := HKL.out; omega, ?_, by omega, by have := HSZ.out; omega, ((((hB.trans (HB1.out.mono (by omega))).trans HBX.out).trans (HB3.out.mono (by omega))).trans hb4)⟩
            have := HSY.out
            rw [if_neg HNE.out] at this
            simpa [List.append_assoc] using this
          case measure => simp [intOf]; omega

set_option maxRecDepth 100000 in
set_option maxHeartbeats 1000000 in
theorem refTold_no {v : Int} {ks : Fo} (h : rightB v ks = false) (hbig : ks.size ≤ 199) {A : Option Addr} {c : Nat} (w : World) (hl : ks.len ≤ c) (hc : c ≤ maxLen) (hk : KidsAt w w.heap.size A 0 ks) :
    Calls Try.prog 22 #[.agg #[.int .i64 v, .slice A ks.len c]] w fun e w' => e = .returned (.tuple #[.slice none 0 0, .int .i64 1]) ∧ Below w.heap.size w w' := by
  obtain ⟨w0, hw0⟩ : ∃ w0, w.alloc (.cells #[.int .i64 v, .slice A ks.len c] 44) = w0 := ⟨_, rfl⟩
  have hbox0 : w0.cell? ⟨w.heap.size, 0, none⟩ = some (.int .i64 v) := by rw [← hw0]; simp
  have hbox : w0.cell? ⟨w.heap.size, 1, none⟩ = some (.slice A ks.len c) := by rw [← hw0]; simp
  have hBw : Below w.heap.size w w0 := by rw [← hw0]; exact (Below.refl _ _).alloc (Nat.le_refl _) _
  have hr := refRight_any v ks A c w0 hbig hl hc (hk.keep (w' := w0) hBw.size fun b o hb => hBw.cell (p := ⟨b, o, none⟩) hb)
  rw [h] at hr
  have HR := Lib.hid hr
  clear hr h hk
  go_enter Try.func22, Try.ntmps22
  go_wp2_with (go_at_call 25; refine HR.out.mono ?_; clear HR; rintro e w1 ⟨rfl, hb1⟩)
  go_ret2
  exact ⟨rfl, hBw.trans (hb1.mono hBw.size)⟩

set_option maxRecDepth 100000 in
set_option maxHeartbeats 1000000 in
theorem refTold_yes {v : Int} {ks : Fo} (h : rightB v ks = true) {A : Option Addr} {c : Nat} (w : World) (hl : ks.len ≤ c) (hc : c ≤ maxLen) (hk : KidsAt w w.heap.size A 0 ks) :
    Calls Try.prog 22 #[.agg #[.int .i64 v, .slice A ks.len c]] w fun e w' =>
      ∃ A2 c2, e = .returned (.tuple #[.slice A2 (refTold 1 ks).length c2, .int .i64 0]) ∧ (refTold 1 ks).length ≤ c2 ∧ c2 ≤ maxLen ∧ IntsAt w' w'.heap.size A2 (refTold 1 ks) ∧ Below w.heap.size w w' := by
  have hsz := right_size h
  obtain ⟨w0, hw0⟩ : ∃ w0, w.alloc (.cells #[.int .i64 v, .slice A ks.len c] 44) = w0 := ⟨_, rfl⟩
  have hz : w0.heap.size = w.heap.size + 1 := by rw [← hw0]; simp
  have hbox0 : w0.cell? ⟨w.heap.size, 0, none⟩ = some (.int .i64 v) := by rw [← hw0]; simp
  have hbox : w0.cell? ⟨w.heap.size, 1, none⟩ = some (.slice A ks.len c) := by rw [← hw0]; simp
  have hBw : Below w.heap.size w w0 := by rw [← hw0]; exact (Below.refl _ _).alloc (Nat.le_refl _) _
  have hk0 : KidsAt w0 w0.heap.size A 0 ks := hk.keep (w' := w0) hBw.size fun b o hb => hBw.cell (p := ⟨b, o, none⟩) hb
  have hr := refRight_any v ks A c w0 (by omega) hl hc hk0
  rw [h] at hr
  have hv : ∀ W, Below w0.heap.size w0 W → _ := fun W hW => refTold_any (ks.size + 1) v ks A c 0 W (by omega) (by omega) hl hc (hk0.keep (w' := W) hW.size fun b o hb => hW.cell (p := ⟨b, o, none⟩) hb)
  simp only [Nat.zero_add, show ((0 : Nat) : Int) = 0 from rfl] at hv
  generalize refTold 1 ks = xs at hv ⊢
  have HR := Lib.hid hr; have HV := Lib.hid hv
  clear hr hv h hk hk0
  go_enter Try.func22, Try.ntmps22
  go_wp2_with fail
  refine HR.out.mono ?_
  rintro e w1 ⟨rfl, hb1⟩
  have g0 := hb1.cellOf (by omega) hbox0
  have g1 := hb1.cellOf (by omega) hbox
  have HB1 := Lib.hid hb1
  clear hb1 hbox0 hbox hw0
  go_wp2_with fail
  refine (HV.out w1 HB1.out).mono ?_
  rintro e w2 ⟨A2, c2, rfl, hc1, hc2, hin, hb2⟩
  have HIN := Lib.hid hin
  clear hin
  go_wp2_with fail
  go_ret2
  exact ⟨_, _, rfl, hc1, hc2, HIN.out, hBw.trans ((HB1.out.trans (hb2.mono HB1.out.size)).mono hBw.size)⟩

set_option maxRecDepth 100000 in
set_option maxHeartbeats 1000000 in
theorem refFlows_no {v : Int} {ks : Fo} (h : rightB v ks = false) (hbig : ks.size ≤ 199) {A : Option Addr} {c : Nat} (w : World) (hl : ks.len ≤ c) (hc : c ≤ maxLen) (hk : KidsAt w w.heap.size A 0 ks) :
    Calls Try.prog 23 #[.agg #[.int .i64 v, .slice A ks.len c]] w fun e w' => e = .returned (.tuple #[.int .i64 0, .int .i64 1]) ∧ Below w.heap.size w w' := by
  obtain ⟨w0, hw0⟩ : ∃ w0, w.alloc (.cells #[.int .i64 v, .slice A ks.len c] 44) = w0 := ⟨_, rfl⟩
  have hbox0 : w0.cell? ⟨w.heap.size, 0, none⟩ = some (.int .i64 v) := by rw [← hw0]; simp
  have hbox : w0.cell? ⟨w.heap.size, 1, none⟩ = some (.slice A ks.len c) := by rw [← hw0]; simp
  have hBw : Below w.heap.size w w0 := by rw [← hw0]; exact (Below.refl _ _).alloc (Nat.le_refl _) _
  have hr := refTold_no h hbig w0 hl hc (hk.keep (w' := w0) hBw.size fun b o hb => hBw.cell (p := ⟨b, o, none⟩) hb)
  have HR := Lib.hid hr
  clear hr h hk
  go_enter Try.func23, Try.ntmps23
  go_wp2_with (go_at_call 22; refine HR.out.mono ?_; clear HR; rintro e w1 ⟨rfl, hb1⟩)
  go_ret2
  exact ⟨rfl, hBw.trans (hb1.mono hBw.size)⟩

set_option maxRecDepth 100000 in
set_option maxHeartbeats 1000000 in
theorem refFlows_yes {v : Int} {ks : Fo} (h : rightB v ks = true) {A : Option Addr} {c : Nat} (w : World) (hl : ks.len ≤ c) (hc : c ≤ maxLen) (hk : KidsAt w w.heap.size A 0 ks) :
    Calls Try.prog 23 #[.agg #[.int .i64 v, .slice A ks.len c]] w fun e w' => e = .returned (.tuple #[.int .i64 (flowsT v ks), .int .i64 0]) ∧ Below w.heap.size w w' := by
  have hsz := right_size h
  obtain ⟨w0, hw0⟩ : ∃ w0, w.alloc (.cells #[.int .i64 v, .slice A ks.len c] 44) = w0 := ⟨_, rfl⟩
  have hz : w0.heap.size = w.heap.size + 1 := by rw [← hw0]; simp
  have hbox0 : w0.cell? ⟨w.heap.size, 0, none⟩ = some (.int .i64 v) := by rw [← hw0]; simp
  have hbox : w0.cell? ⟨w.heap.size, 1, none⟩ = some (.slice A ks.len c) := by rw [← hw0]; simp
  have hBw : Below w.heap.size w w0 := by rw [← hw0]; exact (Below.refl _ _).alloc (Nat.le_refl _) _
  have hk0 : KidsAt w0 w0.heap.size A 0 ks := hk.keep (w' := w0) hBw.size fun b o hb => hBw.cell (p := ⟨b, o, none⟩) hb
  have hr := refTold_yes h w0 hl hc hk0
  have hv : ∀ W, Below w0.heap.size w0 W → _ := fun W hW => votes_any (ks.size + 1) v ks A c W (by omega) (by omega) hl hc (hk0.keep (w' := W) hW.size fun b o hb => hW.cell (p := ⟨b, o, none⟩) hb)
  have hvl : (v :: ks.votes).length = ks.size + 1 := by simp only [List.length_cons, votes_size]
  have hfl : flowsT v ks = 2 * ks.size + 3 * (refTold 1 ks).length := by rw [told_ref h]; rfl
  have htl := refTold_len ks 1
  have hks : ks.size < 64 := by omega
  have htl2 : (refTold 1 ks).length < 64 := by omega
  generalize refTold 1 ks = ts at hr hfl htl htl2
  generalize v :: ks.votes = xs at hv hvl
  have HR := Lib.hid hr; have HV := Lib.hid hv; have HF := Lib.hid hfl; have HL := Lib.hid hvl
  clear hr hv h hk hk0 hfl htl hvl
  go_enter Try.func23, Try.ntmps23
  go_wp2_with fail
  refine HR.out.mono ?_
  rintro e w1 ⟨A2, c2, rfl, hc1, hc2, hin, hb1⟩
  have g0 := hb1.cellOf (by omega) hbox0
  have g1 := hb1.cellOf (by omega) hbox
  have HB1 := Lib.hid hb1
  clear hb1 hbox0 hbox hw0 hin
  go_wp2_with fail
  refine (HV.out w1 HB1.out).mono ?_
  rintro e w2 ⟨A3, c3, rfl, hc3, hc4, hin, hb2⟩
  rw [HL.out]
  clear hin hc3
  have hwr : 2 * (ks.size : Int) + 3 * (ts.length : Int) = ((flowsT v ks : Nat) : Int) := by have := HF.out; omega
  have HW := Lib.hid hwr
  clear hwr
  go_wp2_with fail
  go_ret2
  refine ⟨?_, hBw.trans ((HB1.out.trans (hb2.mono HB1.out.size)).mono hBw.size)⟩
  rw [← HW.out]
  rfl
end Go.Proofs.Ytkafoeaffcbheaa
