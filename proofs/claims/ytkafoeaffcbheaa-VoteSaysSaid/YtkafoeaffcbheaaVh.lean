/- The walk of the law VoteOrder. -/
import Derived.Test.YtkafoeaffcbheaaVg
import Derived.Deep.CutRange
import Derived.Deep.RegionLaw
namespace Go.Proofs.Ytkafoeaffcbheaa
open Go.RowKit
set_option linter.unusedVariables false

theorem reads_node (w : World) (v : Int) (Ak : Option Addr) (n ck : Nat) (t : TypeId) : Reads (w.alloc (.cells #[.int .i64 v, .slice Ak n ck] t)) (w.heap.size + 1) 2 (some ⟨w.heap.size, 0, none⟩) 1 [.int .i64 v, .slice Ak n ck] :=
  ⟨rfl, fun _ => ⟨_, rfl, by simp, fun j u hu => by
    match j with
    | 0 => simp at hu; subst hu; simp [Addr.add]
    | 1 => simp at hu; subst hu; simp [Addr.add]
    | j + 2 => simp at hu⟩⟩

theorem Built.alloc {N M : Nat} {v : Int} {A : Option Addr} {n c : Nat} {u : Fo} {xs : List Value} {w2 wx : World} {A3 : Option Addr} {c3 : Nat} (hN : N < M) (h : Built N M v A n c u xs w2 wx A3 c3) (o : Obj) : Built N M v A n c u xs w2 (wx.alloc o) A3 c3 := by
  obtain ⟨f0, f1, f2, f3, f4, f5, f6, fB, fM⟩ := h
  have hb := below_alloc (Below.refl wx.heap.size wx) o
  exact ⟨hb.cellOf (by omega) f0, hb.cellOf (by omega) f1, hb.cellOf fM f2, hb.cellOf fM f3, (hb.frozen (p := ⟨M, 1, none⟩) fM).trans f4, f5.alloc o, f6.same hb (Nat.le_of_lt fM), fB.trans (hb.mono (Nat.le_of_lt fM)), Nat.lt_of_lt_of_le fM hb.size⟩
theorem KidsAt.drew {w : World} {B : Nat} {A : Option Addr} {i : Nat} {ks : Fo} (h : KidsAt w B A i ks) : KidsAt w.drew B A i ks := KidsAt.keep (w := w) (w' := w.drew) (Nat.le_refl _) (fun _ _ _ => rfl) h

theorem and63 (a : Int) : ∃ t : Nat, t ≤ 63 ∧ bits .and .i64 a 63 = (t : Int) := by
  have h : (BitVec.ofInt 64 a &&& BitVec.ofInt 64 63).toNat ≤ 63 := by
    rw [BitVec.toNat_and]
    exact Nat.le_trans Nat.and_le_right (by decide)
  refine ⟨(BitVec.ofInt 64 a &&& BitVec.ofInt 64 63).toNat, h, ?_⟩
  show IntKind.i64.wrap ((BitVec.ofInt 64 a &&& BitVec.ofInt 64 63).toNat : Int) = _
  rw [IntKind.wrap_i64]
  omega

set_option maxRecDepth 100000 in
set_option maxHeartbeats 4000000 in
theorem order_ok (v : Int) (ks : Fo) (A : Option Addr) (c : Nat) (a : Int) (w : World) (hl : ks.len ≤ c) (hc : c ≤ maxLen) (hk : KidsAt w w.heap.size A 0 ks) (hR : rightB v ks = true) :
    Calls Try.prog 4 #[.agg #[.int .i64 v, .slice A ks.len c], .int .i64 a] w fun e w' => e = .returned (.bool true) ∧ Below w.heap.size w w' := by
  obtain ⟨t, ht63, htb⟩ := and63 a
  obtain ⟨W0, hW0, hBw, hV⟩ := boxed_tree v ks A c w hk
  have hc0 := hV.1
  have hc1 := hV.2.1
  have hsz := right_size hR
  have hlen := len_le_size ks
  have h1 := right_at hR hl hc hV.2.2.2
  have h4 : ∀ W, Var w.heap.size A c v ks W → Calls Try.prog 17 #[.agg #[.int .i64 v, .slice A ks.len c]] W fun e W' => e = .returned (.tuple #[.int .i64 (saysT v ks), .int .i64 0]) ∧ Below W.heap.size W W' := fun W hW =>
    says_yes hR W hl hc hW.2.2.2
  have h5 : ∀ W, Var w.heap.size A c v ks W → Calls Try.prog 18 #[.agg #[.int .i64 v, .slice A ks.len c]] W fun e W' => e = .returned (.tuple #[.int .i64 (flowsT v ks), .int .i64 0]) ∧ Below W.heap.size W W' := fun W hW =>
    flows_yes hR W hl hc hW.2.2.2
  have h7 : ∀ us : Fo, us.list.Perm ks.list → ∀ W A2 c2, us.len ≤ c2 → c2 ≤ maxLen → KidsAt W W.heap.size A2 0 us →
      Calls Try.prog 17 #[.agg #[.int .i64 v, .slice A2 us.len c2]] W fun e W' => e = .returned (.tuple #[.int .i64 (saysT v ks), .int .i64 0]) ∧ Below W.heap.size W W' := fun us hp W A2 c2 a b k => by
    obtain ⟨r, s, f⟩ := order hR hp
    rw [← s]; exact says_yes r W a b k
  have h8 : ∀ us : Fo, us.list.Perm ks.list → ∀ W A2 c2, us.len ≤ c2 → c2 ≤ maxLen → KidsAt W W.heap.size A2 0 us →
      Calls Try.prog 18 #[.agg #[.int .i64 v, .slice A2 us.len c2]] W fun e W' => e = .returned (.tuple #[.int .i64 (flowsT v ks), .int .i64 0]) ∧ Below W.heap.size W W' := fun us hp W A2 c2 a b k => by
    obtain ⟨r, s, f⟩ := order hR hp
    rw [← f]; exact flows_yes r W a b k
  generalize (flowsT v ks : Int) = X at *
  generalize saysT v ks = s at *
  have hl64 : ks.len < 64 := by omega
  have H1 := Lib.hid h1; have H4 := Lib.hid h4; have H5 := Lib.hid h5; have H7 := Lib.hid h7; have H8 := Lib.hid h8
  have HV := Lib.hid hV; have HT := Lib.hid htb
  clear htb
  clear h1 h4 h5 h7 h8 hV hR hk hlen
  go_enter Try.func4, Try.ntmps4
  go_wp2_with fail
  refine H1.out.mono ?_
  rintro e w1 ⟨rfl, hb1⟩
  have hV1 := Var.below hb1 HV.out
  have hd0 := hV1.1
  have hd1 := hV1.2.1
  have hlt1 : w.heap.size < w1.heap.size := hV1.2.2.1
  have HV1 := Lib.hid hV1
  clear hV1 hc0 hc1 hW0
  have hB0 := Built.zero hlt1 hd0 hd1
  generalize hM : w1.heap.size = M at *
  have hd2 := hB0.1
  have hd3 := hB0.2.1
  go_wp2_with fail
  generalize w1.alloc (.cells #[.int .i64 v, .slice none 0 0] 24) = wa at *
  have HB0 := Lib.hid hB0
  clear hB0 hd0 hd1
  have hdn : (Fo.nil).len = 0 := rfl
  go_loopw [7] (fun i wr => ∃ j : Nat, i = .int .i64 (j : Int) ∧ j ≤ ks.len ∧ ∃ A3 c3 ys, Built w.heap.size M v A ks.len c (Fo.of ((turned ks.list (t % ks.list.length)).take j)) ys w1 wr A3 c3) (fun i wr => ks.len - (intOf i).toNat)
  case atStart => exact ⟨0, rfl, Nat.zero_le _, none, 0, [], HB0.out⟩
  case round =>
    obtain ⟨j, rfl, hj, A3, c3, ys, hB⟩ := hrel
    by_cases hlt : j < ks.len
    · have f1 := hB.2.1
      have f3 := hB.2.2.2.1
      have f4 := hB.2.2.2.2.1
      have hjl : (j : Int) < (ks.len : Int) := by omega
      have hj0 : (0 : Int) ≤ (j : Int) := by omega
      have hbM : Below w1.heap.size w1 wr := hM.symm ▸ hB.2.2.2.2.2.2.2.1
      have hln : ks.list.length = ks.len := len_list ks
      have hqlt : (j + t) % ks.len < ks.len := Nat.mod_lt _ (by omega)
      obtain ⟨kv, k, b, off, ck, Ak, hget, rfl, hb, k0, k1, hkl, hkc, hkk⟩ := HV1.out.2.2.2.get (j := (j + t) % ks.len) hqlt
      rw [Nat.zero_add] at k0 k1
      have k0 := (hbM.cell (p := ⟨b, _, none⟩) hb).trans k0
      have k1 := (hbM.cell (p := ⟨b, _, none⟩) hb).trans k1
      have hkk := hkk.below hbM
      rw [hM] at hkk
      have htake := of_take (m := turned ks.list (t % ks.list.length)) (i := j) (x := (kv, k)) (by rw [turned_at (by omega), hln]; exact hget)
      have hrem : (IntKind.i64.wrap ((j : Int) + bits BinOp.and IntKind.i64 a 63)).tmod (ks.len : Int) = (((j + t) % ks.len : Nat) : Int) := by
        rw [HT.out, show IntKind.i64.wrap ((j : Int) + (t : Int)) = ((j + t : Nat) : Int) by rw [IntKind.wrap_i64]; omega]
        exact (Int.ofNat_tmod _ _).symm
      generalize (j + t) % ks.len = q at *
      have hq0 : (0 : Int) ≤ (q : Int) := by omega
      have hql : (q : Int) < (ks.len : Int) := by omega
      have hn0 : ¬ ks.len = 0 := by omega
      have HK := Lib.hid hkk; have HTk := Lib.hid htake; have HLn := Lib.hid hln
      have HB := Lib.hid hB; have HbM := Lib.hid hbM
      clear hB hkk htake hget hln hbM
      have hjlen : (Fo.of ((turned ks.list (t % ks.list.length)).take j)).len ≤ j := by rw [len_of, List.length_take]; omega
      generalize hu : Fo.of ((turned ks.list (t % ks.list.length)).take j) = uu at *
      have HU := Lib.hid hu
      clear hu
      go_wp2_with fail
      have hMr := HB.out.2.2.2.2.2.2.2.2
      have hNr : w.heap.size < wr.heap.size := Nat.lt_trans hlt1 hMr
      have hbr : b < wr.heap.size := by omega
      have z1 := (World.cell?_alloc_lt wr (.cells #[.int .i64 kv, .slice Ak k.len ck] 24) ⟨w.heap.size, 1, none⟩ hNr).trans f1
      have z3 := (World.cell?_alloc_lt wr (.cells #[.int .i64 kv, .slice Ak k.len ck] 24) ⟨M, 1, none⟩ hMr).trans f3
      have zk0 := (World.cell?_alloc_lt wr (.cells #[.int .i64 kv, .slice Ak k.len ck] 24) ⟨b, _, none⟩ hbr).trans k0
      have zk1 := (World.cell?_alloc_lt wr (.cells #[.int .i64 kv, .slice Ak k.len ck] 24) ⟨b, _, none⟩ hbr).trans k1
      have HBz := Lib.hid ((HB.out.alloc hlt1 (.cells #[.int .i64 kv, .slice Ak k.len ck] 24)).drew)
      have HRz := Lib.hid ((reads_node wr kv Ak k.len ck 24).drew)
      have HKz := Lib.hid ((HK.out.below ((below_alloc (Below.refl wr.heap.size wr) (.cells #[.int .i64 kv, .slice Ak k.len ck] 24)).mono (Nat.le_of_lt HB.out.2.2.2.2.2.2.2.2))).drew)
      go_region_law
        ((refine step_append_kids _ rfl _ _ rfl (M + 1) M _ uu (.cons kv k .nil) ys [.int .i64 kv, .slice Ak k.len ck] rfl HBz.out.2.2.2.2.2.1 HBz.out.2.2.2.2.2.2.1 (wr.heap.size + 1) (some ⟨wr.heap.size, 0, none⟩) 1 _ rfl rfl HRz.out ⟨Ak, ck, [], rfl, hkl, hkc, HKz.out, rfl⟩ (by simp only [Fo.len]; omega) (by omega) HBz.out.2.2.2.2.2.2.2.2 ?_; intro A4 c4 w4 hl4 hc4 hown4 hrow4 hk4 hb4; have g1 := hb4.cellOf (by omega) HBz.out.2.1; have g3 := hb4.cellOf (by omega) HBz.out.2.2.2.1; have g4 : w4.frozen? ⟨M, 1, none⟩ = false := (hb4.frozen (p := ⟨M, 1, none⟩) (by simp)).trans HBz.out.2.2.2.2.1))
      all_goals (go_wp2_with fail; go_roundw)
      all_goals first
        | (simp [intOf]; omega)
        | (have e : uu.app (.cons kv k .nil) = Fo.of ((turned ks.list (t % ks.list.length)).take (j + 1)) := by first | exact HTk.out | (rw [← HU.out]; exact HTk.out)
           refine ⟨j + 1, by go_num, by omega, A4, c4, ys ++ [.int .i64 kv, .slice Ak k.len ck], ?_⟩
           rw [← e]
           exact HBz.out.store hlt1 hb4 hown4 hrow4)
    · have hjn : j = ks.list.length := by rw [len_list]; omega
      have hperm : (Fo.of ((turned ks.list (t % ks.list.length)).take j)).list.Perm ks.list := by
        have hm := turned_perm ks.list (t % ks.list.length)
        rw [list_of, List.take_of_length_le (by rw [hm.length_eq]; omega)]
        exact hm
      generalize Fo.of ((turned ks.list (t % ks.list.length)).take j) = us at *
      have hB6 := hB
      obtain ⟨hl6, hc6, hk6⟩ := hB6.kids
      have hV6 : Var M A3 c3 v us wr := ⟨hB6.2.2.1, hB6.2.2.2.1, hB6.2.2.2.2.2.2.2.2, hk6⟩
      have hb6 : Below w1.heap.size w1 wr := hM.symm ▸ hB6.2.2.2.2.2.2.2.1
      have hBB : Below w.heap.size w wr := hBw.trans ((hb1.trans (hb6.mono hb1.size)).mono hBw.size)
      have hT6 := Var.below hb6 HV1.out
      have HS := Lib.hid (H7.out us hperm); have HF := Lib.hid (H8.out us hperm)
      clear hB hB6 hk6 hb6 hBw hb1 HV HV1 H1 H7 H8 hperm HB0 HT
      have d0 := hT6.1
      have d1 := hT6.2.1
      have hjl : (j : Int) = (ks.len : Int) := by rw [hjn, len_list]
      have HT6 := Lib.hid hT6; have HU6 := Lib.hid hV6
      clear hT6 hV6 hjn
      go_wp2_with fail
      refine (H4.out _ HT6.out).mono ?_
      rintro e w7 ⟨rfl, hb7⟩
      have hT7 := Var.below hb7 HT6.out
      have hU7 := Var.below hb7 HU6.out
      have hBB7 := hBB.trans (hb7.mono hBB.size)
      have e0 := hU7.1
      have e1 := hU7.2.1
      have HT7 := Lib.hid hT7; have HU7 := Lib.hid hU7
      clear hT7 hU7 hb7 hBB HT6 HU6 d0 d1
      go_wp2_with fail
      refine (HS.out _ _ _ hl6 hc6 HU7.out.2.2.2).mono ?_
      rintro e w8 ⟨rfl, hb8⟩
      have hT8 := Var.below hb8 HT7.out
      have hU8 := Var.below hb8 HU7.out
      have hBB8 := hBB7.trans (hb8.mono hBB7.size)
      have d0 := hT8.1
      have d1 := hT8.2.1
      have HT8 := Lib.hid hT8; have HU8 := Lib.hid hU8
      clear hT8 hU8 hb8 hBB7 HT7 HU7 e0 e1
      go_wp2_with fail
      refine (H5.out _ HT8.out).mono ?_
      rintro e w9 ⟨rfl, hb9⟩
      have hU9 := Var.below hb9 HU8.out
      have hBB9 := hBB8.trans (hb9.mono hBB8.size)
      have e0 := hU9.1
      have e1 := hU9.2.1
      have HU9 := Lib.hid hU9
      clear hU9 hb9 hBB8 HT8 HU8 d0 d1
      go_wp2_with fail
      refine (HF.out _ _ _ hl6 hc6 HU9.out.2.2.2).mono ?_
      rintro e wA ⟨rfl, hbA⟩
      have hBBA := hBB9.trans (hbA.mono hBB9.size)
      clear hbA hBB9 HU9 e0 e1 H4 H5 HS HF
      go_wp2_with fail
      refine (alive_any wA).mono ?_
      rintro e wB ⟨rfl, hbB⟩
      go_wp2_with fail
      go_ret
      exact ⟨rfl, hBBA.trans (hbB.mono hBBA.size)⟩

set_option maxRecDepth 100000 in
set_option maxHeartbeats 1000000 in
theorem walk_VoteOrder (v : Int) (ks : Fo) (A : Option Addr) (c : Nat) (a : Int) (w : World) (hl : ks.len ≤ c) (hc : c ≤ maxLen) (hk : KidsAt w w.heap.size A 0 ks) (ha : (Lit.int IntKind.i64 a).wf = true) :
    Calls Try.prog 4 #[.agg #[.int .i64 v, .slice A ks.len c], .int .i64 a] w fun e w' => e = .returned (.bool true) ∧ Below w.heap.size w w' := by
  cases hR : rightB v ks
  · obtain ⟨W0, hW0, hBw, hV⟩ := boxed_tree v ks A c w hk
    have hc0 := hV.1
    have hc1 := hV.2.1
    have h1 := right_at hR hl hc hV.2.2.2
    have H1 := Lib.hid h1
    clear h1 hV hR hk ha
    go_enter Try.func4, Try.ntmps4
    go_wp2_with (first
      | (go_at_call 15; refine H1.out.mono ?_; clear H1; rintro e w1 ⟨rfl, hb1⟩)
      | (go_at_call 16; refine (alive_any _).mono ?_; rintro e w2 ⟨rfl, hb2⟩))
    go_ret
    exact ⟨rfl, hBw.trans ((hb1.trans (hb2.mono hb1.size)).mono hBw.size)⟩
  · exact order_ok v ks A c a w hl hc hk hR
end Go.Proofs.Ytkafoeaffcbheaa
