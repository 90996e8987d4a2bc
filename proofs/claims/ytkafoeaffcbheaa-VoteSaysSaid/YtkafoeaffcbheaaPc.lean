/- The reference's small functions: what votes say together, how many nodes and how deep, all votes. -/
import Derived.Test.YtkafoeaffcbheaaPa
import Derived.Test.YtkafoeaffcbheaaVn
namespace Go.Proofs.Ytkafoeaffcbheaa
open Go.RowKit
set_option linter.unusedVariables false

set_option maxHeartbeats 1000000 in
theorem refSays3_any (A : Option Addr) (c : Nat) (xs : List Int) (w : World) (hA : IntsAt w w.heap.size A xs) (hm : xs.length ≤ maxLen) :
    Calls Try.prog 27 #[.slice A xs.length c] w fun e w' => e = .returned (.int .i64 (says3F xs)) ∧ w = w' := by
  unfold maxLen at hm
  go_enter Try.func27, Try.ntmps27
  go_wp2
  go_loop [3, 4] (fun y i => ∃ (k n : Nat), k ≤ xs.length ∧ n ≤ k ∧ i = .int .i64 k ∧ y = .int .i64 n ∧ s3 (xs.drop k) (if 0 < n then 1 else 2) = says3F xs) (fun _ i => xs.length - (intOf i).toNat)
  case atStart => exact ⟨0, 0, Nat.zero_le _, Nat.le_refl _, rfl, rfl, rfl⟩
  case round =>
    obtain ⟨k, n, hk, hn, rfl, rfl, hs⟩ := hrel
    by_cases hlt : k < xs.length
    · obtain ⟨b, off, rfl, hb, hc⟩ := hA (by omega)
      have hx : xs[k]? = some xs[k] := List.getElem?_eq_getElem hlt
      have hcell := hc k _ hx
      rw [List.drop_eq_getElem_cons hlt, s3] at hs
      generalize xs[k] = x at hs hcell hx
      have HS := Lib.hid hs
      clear hs hx hc
      by_cases x1 : x = 1
      · subst x1
        go_wp2
        go_round
        case rel =>
          refine ⟨k + 1, n + 1, by omega, by omega, by go_num, by go_num, ?_⟩
          have := HS.out
          rw [if_pos rfl] at this
          rw [if_pos (Nat.succ_pos n), ← this]
          by_cases h : 0 < n <;> simp [h]
        case measure => simp [intOf]; omega
      · by_cases x2 : x = 2
        · subst x2
          go_wp2
          go_round
          case rel => exact ⟨k + 1, n, by omega, by omega, by go_num, rfl, by simpa using HS.out⟩
          case measure => simp [intOf]; omega
        · have e1 : (x == 1) = false := by simpa using x1
          have e2 : (x == 2) = false := by simpa using x2
          have e3 : (x != 1) = true := by simpa using x1
          have e4 : (x != 2) = true := by simpa using x2
          have H1 := Lib.hid x1
          have H2 := Lib.hid x2
          clear x1 x2
          go_wp2
          go_ret
          exact ⟨ret_i64 (by have := HS.out; rw [if_neg H1.out, if_neg H2.out] at this; exact this.symm), rfl⟩
    · have : k = xs.length := by omega
      have HS := Lib.hid hs
      clear hs
      have HK := Lib.hid this
      clear this
      by_cases hn0 : 0 < n
      · have hn1 : (0 : Int) < (n : Int) := by omega
        have HN := Lib.hid hn0
        go_wp2
        go_ret
        exact ⟨ret_i64 (by have := HS.out; rw [HK.out, List.drop_length, if_pos HN.out] at this; exact this.symm), rfl⟩
      · have hn1 : ¬ (0 : Int) < (n : Int) := by omega
        have HN := Lib.hid hn0
        go_wp2
        go_ret
        exact ⟨ret_i64 (by have := HS.out; rw [HK.out, List.drop_length, if_neg HN.out] at this; exact this.symm), rfl⟩

set_option maxRecDepth 100000 in
set_option maxHeartbeats 2000000 in
theorem refCount_any : ∀ (s : Nat) (v : Int) (ks : Fo) (A : Option Addr) (c M : Nat) (w : World), ks.size < s → ks.size ≤ 200 → M ≤ 64 → ks.len ≤ c → c ≤ maxLen → KidsAt w w.heap.size A 0 ks →
    Calls Try.prog 35 #[.agg #[.int .i64 v, .slice A ks.len c], .int .i64 M] w fun e w' =>
      e = .returned (.tuple #[.int .i64 ((ks.cnt2 M 1 1).1 : Nat), .int .i64 ((ks.cnt2 M 1 1).2 : Nat)]) ∧ Below w.heap.size w w' := by
  intro s
  induction s with
  | zero => intro v ks A c M w hs; omega
  | succ s ih =>
    intro v ks A c M w hs hbig hM hl hc hk
    have hlen := len_le_size ks
    have hle := cnt2_le ks M 1 1
    obtain ⟨w0, hw0⟩ : ∃ w0, w.alloc (.cells #[.int .i64 v, .slice A ks.len c] 44) = w0 := ⟨_, rfl⟩
    have hz : w0.heap.size = w.heap.size + 1 := by rw [← hw0]; simp
    have hbox : w0.cell? ⟨w.heap.size, 1, none⟩ = some (.slice A ks.len c) := by rw [← hw0]; simp
    have hBw : Below w.heap.size w w0 := by rw [← hw0]; exact (Below.refl _ _).alloc (Nat.le_refl _) _
    have HLE := Lib.hid hle
    clear hle
    go_enter Try.func35, Try.ntmps35
    go_wp2_with fail
    clear hw0
    go_loopw [6, 7, 8, 9, 10] (fun nv dv i _ _ wr => ∃ (k n d : Nat) (rest : Fo), i = .int .i64 k ∧ nv = .int .i64 n ∧ dv = .int .i64 d ∧
        KidsAt w w.heap.size A k rest ∧ k + rest.len = ks.len ∧ rest.size ≤ ks.size ∧ rest.cnt2 M n d = ks.cnt2 M 1 1 ∧ Below (w.heap.size + 1) w0 wr) (fun _ _ i _ _ _ => ks.len - (intOf i).toNat)
    case atStart => exact ⟨0, 1, 1, ks, rfl, rfl, rfl, hk, by omega, Nat.le_refl _, rfl, Below.refl _ _⟩
    case round =>
      obtain ⟨k, n, d, rest, rfl, rfl, rfl, hka, hkl, hgs, hcn, hB⟩ := hrel
      have hc3 : wr.cell? ⟨w.heap.size, 1, none⟩ = some (.slice A ks.len c) := (hB.cell (p := ⟨w.heap.size, 1, none⟩) (by simp)).trans hbox
      have hBB : Below w.heap.size w wr := hBw.trans (hB.mono (by omega))
      cases rest with
      | nil =>
        have hkl' : k = ks.len := by simpa [Fo.len] using hkl
        have hge : ¬ k < ks.len := by omega
        have HG := Lib.hid hcn
        clear hgs hkl hkl' hcn
        go_wp2
        go_ret2
        exact ⟨by rw [← HG.out]; rfl, hBB⟩
      | cons v' ks' r =>
        obtain ⟨b', off', c', A', rfl, hb', hx0, hx1, hl', hc', hk'⟩ := hka.head2
        simp only [Fo.len, Fo.size] at hkl hgs
        have hlt : k < ks.len := by omega
        have hl1 := cnt2_le (.cons v' ks' r) M n d
        rw [hcn] at hl1
        have hle := HLE.out
        have hn200 : n ≤ 201 := by omega
        have hd200 : d ≤ 201 := by omega
        clear hl1
        by_cases hnM : n ≤ M
        · have hr0 : wr.cell? ⟨b', off' + k * 2, none⟩ = some (.int .i64 v') := (hBB.cell (p := ⟨b', off' + k * 2, none⟩) hb').trans hx0
          have hr1 : wr.cell? ⟨b', off' + k * 2 + 1, none⟩ = some (.slice A' ks'.len c') := (hBB.cell (p := ⟨b', off' + k * 2 + 1, none⟩) hb').trans hx1
          have hIH := ih v' ks' A' c' (M - n) wr (by omega) (by omega) (by omega) hl' hc' (hk'.keep hBB.size fun b o h => hBB.cell (p := ⟨b, o, none⟩) h)
          have hl2 := cnt2_le ks' (M - n) 1 1
          rw [show ((M - n : Nat) : Int) = (M : Int) - (n : Int) by omega] at hIH
          simp only [Fo.cnt2, if_pos hnM] at hcn
          generalize ks'.cnt2 (M - n) 1 1 = p at hIH hl2 hcn
          obtain ⟨m, e⟩ := p
          simp only at hIH hl2 hcn
          have hm200 : m ≤ 201 := by omega
          have he200 : e ≤ 201 := by omega
          have hnM' : (n : Int) ≤ (M : Int) := by omega
          have HI := Lib.hid hIH
          have HKL := Lib.hid hkl
          have HGS := Lib.hid hgs
          have HKA := Lib.hid hka.2
          have HCN := Lib.hid hcn
          have hklt : k < 200 := by omega
          clear hIH hkl hgs hka hk' hx0 hx1 hk hl2 hcn hle
          by_cases hde : d ≤ e
          · have hde' : (d : Int) ≤ (e : Int) := by omega
            go_wp2_with (go_at_call 35; refine HI.out.mono ?_; clear HI; rintro e w1 ⟨rfl, hb1⟩)
            go_roundw
            case rel =>
              have h6 := HKL.out
              have h7 := HGS.out
              have h8 := HCN.out
              rw [if_pos hde] at h8
              exact ⟨k + 1, n + m, e + 1, r, by go_num, by go_num, by go_num, HKA.out, by omega, by omega, h8, hB.trans (hb1.mono (by have := hB.size; omega))⟩
            case measure => simp [intOf]; omega
          · have hde' : ¬ (d : Int) ≤ (e : Int) := by omega
            go_wp2_with (go_at_call 35; refine HI.out.mono ?_; clear HI; rintro e w1 ⟨rfl, hb1⟩)
            go_roundw
            case rel =>
              have h6 := HKL.out
              have h7 := HGS.out
              have h8 := HCN.out
              rw [if_neg hde] at h8
              exact ⟨k + 1, n + m, d, r, by go_num, by go_num, rfl, HKA.out, by omega, by omega, h8, hB.trans (hb1.mono (by have := hB.size; omega))⟩
            case measure => simp [intOf]; omega
        · have hnM' : ¬ (n : Int) ≤ (M : Int) := by omega
          rw [cnt2_past (by omega)] at hcn
          have HG := Lib.hid hcn
          clear hgs hkl hcn hle
          go_wp2
          go_ret2
          exact ⟨by rw [← HG.out]; rfl, hBB⟩

section
variable (w : World)

theorem reads_of_ints {w : World} {B : Nat} {A : Option Addr} {xs : List Int} (h : IntsAt w B A xs) : Reads w B 1 A xs.length (xs.map (Value.int .i64)) :=
  ⟨by simp, fun hn => by
    obtain ⟨b, off, rfl, hb, hc⟩ := h hn
    refine ⟨_, rfl, hb, fun j u hu => ?_⟩
    rw [List.getElem?_map] at hu
    obtain ⟨x, hx, rfl⟩ := Option.map_eq_some_iff.1 hu
    rw [Go.WideShapes.add_plain]
    exact hc j x hx⟩
theorem ints_of_own {w : World} {base n : Nat} {v : Value} {xs : List Int} (h : w.ownsRow base 3 1 v n (xs.map (Value.int .i64))) :
    ∃ A c, v = .slice A xs.length c ∧ xs.length ≤ c ∧ c ≤ maxLen ∧ IntsAt w w.heap.size A xs := by
  have hn : n = xs.length := by have := h.1; simp at this; omega
  subst hn
  rcases h.2 with ⟨rfl, h0⟩ | ⟨g, cap, cur, rfl, _, hg, hnc, hcap, _, _⟩
  · refine ⟨none, 0, ?_, by omega, by unfold maxLen; omega, fun hp => absurd hp (by omega)⟩
    rw [show xs.length = 0 from h0]
  · exact ⟨_, cap, rfl, hnc, hcap, intsAt_of_own h rfl (h.lt g rfl).2⟩

theorem wpList_append_ints {ops : Array Oper} {rest : List Oper} {o : Oper} {a : Act} {Q : Exit → Act → World → Prop} (hgd : o.guard = none) (s x : Operand)
    (ho : o.op = .call { callee := .builtin .append, args := #[s, x], argTypes := #[29, 29] })
    (base : Nat) (v : Value) (xs ys : List Int) (hs : a.eval s = v) (hown : w.ownsRow base 3 1 v xs.length (xs.map (Value.int .i64)))
    (B : Nat) (A : Option Addr) (m c : Nat) (hx : a.eval x = .slice A m c) (hm : m = ys.length) (hr : IntsAt w B A ys)
    (hsm : xs.length + ys.length ≤ 1000) (hbase : base ≤ w.heap.size)
    (h : ∀ v' w', w'.ownsRow base 3 1 v' (xs ++ ys).length ((xs ++ ys).map (Value.int .i64)) → Below base w w' → wpList Try.prog ops Q rest (a.put o.dst v') w') : wpList Try.prog ops Q (o :: rest) a w := by
  subst hm
  obtain ⟨i0, hi, hz0, hz1, hz2⟩ := info_parts info_int
  refine wpList_append_any w hgd s x _ ho base 3 i0 _ 1 8 Try.underlying29 hi hz0 hz1 hz2 rfl (by omega) v xs.length _ hs hown B A ys.length c _ hx (reads_of_ints hr)
    (fun u hu => by obtain ⟨x, _, rfl⟩ := List.mem_map.1 hu; rfl) (by unfold maxLen; omega) (by omega) hbase ?_
  intro v' w' hown' hg _
  rw [← List.map_append, ← List.length_append] at hown'
  exact h v' w' hown' ((Below.refl _ w).grown hg hbase fun k hk => (hown.lt k hk).1)
end

theorem intsAt_one (W : World) (x : Int) (t : TypeId) : IntsAt (W.alloc (.cells #[.int .i64 x] t)) (W.heap.size + 1) (some ⟨W.heap.size, 0, none⟩) [x] := fun _ =>
  ⟨_, _, rfl, by omega, fun i y hy => by
    match i with
    | 0 => simp at hy; subst hy; simp
    | i + 1 => simp at hy⟩
theorem own_none {W : World} {base e : Nat} {size : Nat} {v : Value} {n : Nat} {xs : List Value} (h : W.ownsRow base e size v n xs) : v.ownBlock = none ∨ v.ownBlock ≠ none := by
  cases v.ownBlock
  · exact .inl rfl
  · exact .inr (by simp)

set_option maxRecDepth 100000 in
set_option maxHeartbeats 2000000 in
theorem votes_any : ∀ (s : Nat) (v : Int) (ks : Fo) (A : Option Addr) (c : Nat) (w : World), ks.size < s → ks.size ≤ 200 → ks.len ≤ c → c ≤ maxLen → KidsAt w w.heap.size A 0 ks →
    Calls Try.prog 33 #[.agg #[.int .i64 v, .slice A ks.len c]] w fun e w' =>
      ∃ A2 c2, e = .returned (.slice A2 (v :: ks.votes).length c2) ∧ (v :: ks.votes).length ≤ c2 ∧ c2 ≤ maxLen ∧ IntsAt w' w'.heap.size A2 (v :: ks.votes) ∧ Below w.heap.size w w' := by
  intro s
  induction s with
  | zero => intro v ks A c w hs; omega
  | succ s ih =>
    intro v ks A c w hs hbig hl hc hk
    have hlen := len_le_size ks
    obtain ⟨w0, hw0⟩ : ∃ w0, w.alloc (.cells #[.int .i64 v, .slice A ks.len c] 44) = w0 := ⟨_, rfl⟩
    have hz : w0.heap.size = w.heap.size + 1 := by rw [← hw0]; simp
    have hbox0 : w0.cell? ⟨w.heap.size, 0, none⟩ = some (.int .i64 v) := by rw [← hw0]; simp
    have hbox : w0.cell? ⟨w.heap.size, 1, none⟩ = some (.slice A ks.len c) := by rw [← hw0]; simp
    have hBw : Below w.heap.size w w0 := by rw [← hw0]; exact (Below.refl _ _).alloc (Nat.le_refl _) _
    have hone : IntsAt (w0.alloc (.cells #[.int .i64 v] 3)) (w.heap.size + 1 + 1) (some ⟨w.heap.size + 1, 0, none⟩) [v] := by rw [← hz]; exact intsAt_one _ _ _
    go_enter Try.func33, Try.ntmps33
    go_wp2_with (at_builtin; go_must (refine wpList_append_ints _ rfl _ _ rfl (w.heap.size + 1) _ [] [v] rfl (World.ownsRow_nil _ _ _ _) (w.heap.size + 1 + 1) (some ⟨w.heap.size + 1, 0, none⟩) 1 1 rfl rfl hone (by simp) (by simp; omega) ?_; intro lv w1 hown1 hb1))
    have hB1 : Below (w.heap.size + 1) w0 w1 := (below_alloc (Below.refl _ w0) _).mono (by omega) |>.trans hb1
    have HOWN := Lib.hid hown1
    clear hw0 hown1 hb1
    go_loopw [3, 4] (fun lv i wr => ∃ (k : Nat) (got : List Int) (rest : Fo), i = .int .i64 k ∧ wr.ownsRow (w.heap.size + 1) 3 1 lv (v :: got).length ((v :: got).map (Value.int .i64)) ∧
        KidsAt w w.heap.size A k rest ∧ k + rest.len = ks.len ∧ got ++ rest.votes = ks.votes ∧ rest.size ≤ ks.size ∧ Below (w.heap.size + 1) w0 wr) (fun _ i _ => ks.len - (intOf i).toNat)
    case atStart => exact ⟨0, [], ks, rfl, HOWN.out, hk, by omega, rfl, Nat.le_refl _, hB1⟩
    case round =>
      obtain ⟨k, got, rest, rfl, hown, hka, hkl, hsy, hsz, hB⟩ := hrel
      have hc3 : wr.cell? ⟨w.heap.size, 1, none⟩ = some (.slice A ks.len c) := (hB.cell (p := ⟨w.heap.size, 1, none⟩) (by simp)).trans hbox
      have hBB : Below w.heap.size w wr := hBw.trans (hB.mono (by omega))
      cases rest with
      | nil =>
        have hkl' : k = ks.len := by simpa [Fo.len] using hkl
        have hge : ¬ k < ks.len := by omega
        simp only [Fo.votes, List.append_nil] at hsy
        subst hsy
        obtain ⟨A2, c2, rfl, h1, h2, h3⟩ := ints_of_own hown
        have H3 := Lib.hid h3
        have H1 := Lib.hid h1
        clear hkl hkl' hown h3 h1
        go_wp2
        go_ret
        exact ⟨_, _, rfl, H1.out, h2, H3.out, hBB⟩
      | cons v' ks' r =>
        obtain ⟨b', off', c', A', rfl, hb', hx0, hx1, hl', hc', hk'⟩ := hka.head2
        simp only [Fo.len, Fo.size] at hkl hsz
        have hlt : k < ks.len := by omega
        have hr0 : wr.cell? ⟨b', off' + k * 2, none⟩ = some (.int .i64 v') := (hBB.cell (p := ⟨b', off' + k * 2, none⟩) hb').trans hx0
        have hr1 : wr.cell? ⟨b', off' + k * 2 + 1, none⟩ = some (.slice A' ks'.len c') := (hBB.cell (p := ⟨b', off' + k * 2 + 1, none⟩) hb').trans hx1
        have hIH := ih v' ks' A' c' wr (by omega) (by omega) hl' hc' (hk'.keep hBB.size fun b o h => hBB.cell (p := ⟨b, o, none⟩) h)
        have hsum : (v :: got).length + (v' :: ks'.votes).length ≤ 1000 := by
          have := congrArg List.length hsy
          simp only [Fo.votes, List.length_append, List.length_cons, votes_size] at this ⊢
          omega
        have HI := Lib.hid hIH
        have HSY := Lib.hid hsy
        have HKL := Lib.hid hkl
        have HKA := Lib.hid hka.2
        have HSM := Lib.hid hsum
        have HSZ := Lib.hid hsz
        have HOW := Lib.hid hown
        have hklt : k < 200 := by omega
        clear hIH hsy hkl hka hk' hx0 hx1 hk hsum hown hsz
        go_wp2_with (first
          | (go_at_call 33; refine HI.out.mono ?_; clear HI; rintro e w1 ⟨A2, c2, rfl, -, -, hin, hb1⟩; have hown1 := Lib.hid (HOW.out.kept (grown_of_below hb1 none) (own_none HOW.out)))
          | (at_builtin; go_must (refine wpList_append_ints _ rfl _ _ rfl (w.heap.size + 1) _ (v :: got) (v' :: ks'.votes) rfl hown1.out _ _ _ _ rfl rfl hin HSM.out (by have h5 := hB.size; have h6 := hb1.size; omega) ?_; intro v2 w2 hown2 hb2)))
        go_roundw
        case rel =>
          refine ⟨k + 1, got ++ (v' :: ks'.votes), r, by go_num, by simpa using hown2, HKA.out, by have := HKL.out; omega, ?_, by have := HSZ.out; omega, (hB.trans (hb1.mono (by have := hB.size; omega))).trans hb2⟩
          have := HSY.out
          simpa [Fo.votes, List.append_assoc] using this
        case measure => simp [intOf]; omega
end Go.Proofs.Ytkafoeaffcbheaa
