/- oct.walk: the iterator over the parts of a joined text. -/
import Derived.Test.YthpgfgnifbhjpaaLk
import Derived.Test.YthpgfgnifbhjpaaLc
namespace Go.Proofs.Ythpgfgnifbhjpaa
open Go.RowKit Go.Shelf

attribute [local go_sem] Oper.semAt_some
set_option linter.unusedVariables false

theorem info8 : (Try.prog.info? 5).map (fun i => (i.zero, i.size, i.bytes)) = some (some (.int .u8 0), 1, 1) := by kernel_rfl

theorem joinF_append : ∀ a b : List (List Int), joinF (a ++ b) = joinF a ++ joinF b
  | [], _ => rfl
  | p :: a, b => by simp only [List.cons_append, joinF, joinF_append a b, List.append_assoc]

structure PIt where
  e : Int
  G : Nat
  c : Nat
  part : List Int
def PIt.g (x : PIt) : Int × List Int := (x.e, x.part)
def PIt.enc (x : PIt) : Array Value := #[.int .i64 x.e, .slice (some ⟨x.G, 0, none⟩) x.part.length x.c]
def PIt.V (n₀ : Nat) (x : PIt) (W : World) : Prop := W.ownsRow n₀ 5 1 (.slice (some ⟨x.G, 0, none⟩) x.part.length x.c) x.part.length (x.part.map (Value.int .u8))
/-- The parts, and where they begin. -/
def sites : Int → List (List Int) → List (Int × List Int)
  | _, [] => []
  | p, r :: rs => (p, r) :: sites (p + (r.length + 2)) rs
theorem sites_append : ∀ (a b : List (List Int)) (p : Int), sites p (a ++ b) = sites p a ++ sites (p + (joinF a).length) b
  | [], b, p => by simp [sites, joinF]
  | r :: a, b, p => by
    have := sites_append a b (p + (r.length + 2))
    simp only [List.cons_append, sites, this, joinF, List.length_append, hdr, List.length_cons, List.length_nil]
    congr 3
    omega
theorem sites_length : ∀ (rs : List (List Int)) (p : Int), (sites p rs).length = rs.length
  | [], _ => rfl
  | r :: rs, p => by simp only [sites, List.length_cons, sites_length rs]

theorem peek {b : List Int} {ps done rest : List (List Int)} (hb : b = joinF ps) (hdr' : ps = done ++ rest) :
    (joinF done).length = b.length ∧ rest = [] ∨ ∃ r more, rest = r :: more ∧ (joinF done).length + (r.length + 2) ≤ b.length ∧ b[(joinF done).length]? = some ((r.length : Int) / 256) ∧ b[(joinF done).length + 1]? = some ((r.length : Int) % 256) ∧
      (b.drop ((joinF done).length + 2)).take r.length = r := by
  subst hdr'
  rw [joinF_append] at hb
  cases rest with
  | nil => exact .inl ⟨by rw [hb]; simp [joinF], rfl⟩
  | cons r more =>
    have hlen : b.length = (joinF done).length + (r.length + 2 + (joinF more).length) := by
      rw [hb]
      simp only [joinF, List.length_append, hdr, List.length_cons, List.length_nil]
      omega
    have hd : b.drop (joinF done).length = hdr r.length ++ (r ++ joinF more) := by rw [hb, List.drop_left]; rfl
    have hget : ∀ i, b[(joinF done).length + i]? = (hdr r.length ++ (r ++ joinF more))[i]? := fun i => by rw [← hd, List.getElem?_drop]
    refine .inr ⟨r, more, rfl, by omega, (hget 0).trans rfl, (hget 1).trans rfl, ?_⟩
    rw [← List.drop_drop, hd]
    show (r ++ joinF more).take r.length = r
    exact List.take_left

theorem own_some {W : World} {base e size k : Nat} {v : Value} {xs : List Value} (h : W.ownsRow base e size v k xs) (hn : v ≠ .slice none 0 0) : ∃ g c, v = .slice (some ⟨g, 0, none⟩) k c ∧ k ≤ c := by
  rcases h.2 with ⟨rfl, _⟩ | ⟨g, cap, cur, rfl, _, _, hk, _⟩
  · exact absurd rfl hn
  · exact ⟨g, cap, rfl, hk⟩
theorem grown_fresh {W Wa W' : World} {g : Nat} (h : W.grownBy Wa none) (h' : Wa.grownBy W' (some g)) (hg : W.heap.size ≤ g) : W.grownBy W' none :=
  ⟨h'.os.trans h.os, h'.tape.trans h.tape, h'.output.trans h.output, Nat.le_trans h.size h'.size, fun i hi _ => (h'.block i (Nat.lt_of_lt_of_le hi h.size) (fun e => by injection e with e; omega)).trans (h.block i hi (by simp))⟩
theorem own_empty (W : World) (t : TypeId) (n₀ : Nat) (h : n₀ ≤ W.heap.size) : (W.alloc (.cells #[] t)).ownsRow n₀ t 1 (.slice (some ⟨W.heap.size, 0, none⟩) 0 0) 0 [] :=
  ⟨rfl, .inr ⟨W.heap.size, 0, #[], rfl, h, World.alloc_heap_new W _, Nat.le_refl _, by unfold maxLen; omega, rfl, rfl⟩⟩

set_option maxRecDepth 100000 in
set_option maxHeartbeats 8000000 in
theorem oct_walk1 (n l n₀ Bb : Nat) (A : Option Addr) (c : Nat) (b : List Int) (ps : List (List Int)) (w0 : World) (J : List PIt → World → Prop)
    (hb : b = joinF ps) (hps : ∀ p ∈ ps, p.length ≤ 60 ∧ Bytes p) (hlen : b.length ≤ 100000) (hlc : b.length ≤ c) (hcm : c ≤ maxLen) (hBb : Bb < w0.heap.size) (hc : w0.cell? ⟨Bb, 0, none⟩ = some (.slice A b.length c)) (hA : BytesP w0 (· < n₀) A b) (hn₀ : n₀ ≤ w0.heap.size)
    (hJ : AbidesFrom w0.heap.size J)
    (hY : ∀ pre x W1, J pre W1 → PIt.V n₀ x W1 → pre.length < ps.length → YieldAt Fence.wide (n - 1) Try.prog l x.enc W1 fun e W' => e = .returned (.bool true) ∧ J (pre ++ [x]) W' ∧ KB n₀ Bb W1 W') (h0 : J [] w0) :
    CallsIn Fence.wide n Try.prog 31 #[.func (.yield l) #[] #[], .pointer (some ⟨Bb, 0, none⟩)] w0 fun e W' => (∃ v, e = .returned v) ∧ ∃ xs, xs.map PIt.g = sites 0 ps ∧ J xs W' := by
  refine callsIn_of_wp Try.func31 rfl trivial ?_ rfl
  simp only [Try.ntmps31, List.size_toArray, List.length_cons, List.length_nil, Nat.reduceAdd, Nat.reduceSub, Array.replicate_succ, Array.replicate_zero, List.push_toArray, List.append_toArray, List.nil_append, List.cons_append]
  obtain ⟨i0, hi, hz0, hz1, hz2⟩ := info_parts info8
  have HBE := Lib.hid hb; have HJ := Lib.hid hJ; have HY := Lib.hid hY; have HPS := Lib.hid hps
  clear hb hJ hY hps
  gi_wp2
  gi_loopw [3, 4] (fun at_ _ wr => ∃ (pre : List PIt) (done rest : List (List Int)), at_ = .int .i64 (joinF done).length ∧ ps = done ++ rest ∧ pre.map PIt.g = sites 0 done ∧ J pre wr ∧ KB n₀ Bb w0 wr) (fun at_ _ _ => b.length - (intOf at_).toNat)
  case atStart => exact ⟨[], [], ps, rfl, rfl, rfl, h0, KB.refl _ _ _⟩
  case round =>
    obtain ⟨pre, done, rest, rfl, hdr', hpre, hJs, hKB⟩ := hrel
    have hB := hKB.1
    have hBw : Bb < wr.heap.size := Nat.lt_of_lt_of_le hBb hB.size
    have hcw := (World.cell?_of_block (a := ⟨Bb, 0, none⟩) hKB.2).trans hc
    have hlook := peek HBE.out hdr'
    have hpl : pre.length = done.length := by
      have := congrArg List.length hpre
      rw [List.length_map, sites_length] at this
      exact this
    have HKB := Lib.hid hKB
    clear hKB
    have HDR := Lib.hid hdr'; have HPRE := Lib.hid hpre; have HJS := Lib.hid hJs
    clear hdr' hpre hJs
    generalize hp : (joinF done).length = p at *
    have HP := Lib.hid hp
    clear hp
    have hdd : ∀ k : Nat, (Fence.wide.depth.isSome = true → 1 ≤ k) := fun k h => absurd h (by decide)
    rcases hlook with ⟨hsh, hrest⟩ | ⟨r, more, hrest, hlo, b0, b1, hpart⟩
    · have HRE := Lib.hid hrest
      clear hrest
      have q1 : ¬ (p : Int) < (b.length : Int) := by omega
      gi_wp2
      go_end0
      exact ⟨⟨_, rfl⟩, pre, by rw [HPRE.out, HDR.out, HRE.out, List.append_nil], HJS.out⟩
    · obtain ⟨bb, off, rfl, hbb, hcl⟩ := hA (by omega)
      have z0 := (hB.cell (p := ⟨bb, off + p, none⟩) hbb).trans (hcl p _ b0)
      have z1 := (hB.cell (p := ⟨bb, off + (p + 1), none⟩) hbb).trans (hcl (p + 1) _ b1)
      obtain ⟨hr60, hrb⟩ := HPS.out r (by rw [HDR.out, hrest]; simp)
      have hor : bits .or .i64 ((r.length : Int) / 256 * 256) ((r.length : Int) % 256) = (r.length : Int) := by
        rw [or_i64 (by omega) (by omega) (by omega) (by omega)]; omega
      have hAw : BytesP wr (fun _ => True) (some ⟨bb, off, none⟩) b := hA.keep fun b' hb' _ => ⟨trivial, hB.block b' hb'⟩
      have s2 := bytes_sub hAw (p + 2) r.length
      rw [hpart] at s2
      have hlenp : pre.length < ps.length := by rw [HDR.out, List.length_append, hrest, List.length_cons]; omega
      have hn₀w : n₀ ≤ wr.heap.size := Nat.le_trans hn₀ hB.size
      clear b0 b1 hcl hpart hAw
      have HRE := Lib.hid hrest; have HLP := Lib.hid hlenp; have HS2 := Lib.hid s2
      clear hrest hlenp s2
      have p0 : (0 : Int) ≤ (p : Int) := by omega
      have p2 : (2 : Int) ≤ (b.length : Int) - (p : Int) := by omega
      have pa : (p : Int) < (b.length : Int) := by omega
      have pb : (p : Int) + 1 < (b.length : Int) := by omega
      have p1 : (0 : Int) ≤ (p : Int) + 1 := by omega
      have nl : ¬ (r.length : Int) < 0 := by omega
      have ng : ¬ (b.length : Int) - (p : Int) - 2 < (r.length : Int) := by omega
      gi_wp2
      refine wpIn_wide.2 ?_
      go_quiet (fail)
      obtain ⟨wd, hwd⟩ : ∃ wd, wr.drewN nq = wd := ⟨_, rfl⟩
      have hgd : wr.grownBy wd none := by rw [← hwd]; exact ⟨rfl, rfl, rfl, Nat.le_refl _, fun _ _ _ => rfl⟩
      have hzd : wr.heap.size = wd.heap.size := by rw [← hwd]; rfl
      rw [hwd]
      clear hwd
      have hga : wr.grownBy (wd.alloc (.cells #[] 5)) none := grown_trans hgd (World.grownBy_alloc wd _ none)
      have hca : (wd.alloc (.cells #[] 5)).cell? ⟨Bb, 0, none⟩ = some (.slice (some ⟨bb, off, none⟩) b.length c) := hga.cell hcw (by simp)
      have hcd : wd.cell? ⟨Bb, 0, none⟩ = some (.slice (some ⟨bb, off, none⟩) b.length c) := hgd.cell hcw (by simp)
      have how := own_empty wd 5 n₀ (by omega)
      have hadx : ∃ ad : Addr, (if c = p + 2 then some ⟨bb, off, none⟩ else some ⟨bb, off + (p + 2), none⟩ : Option Addr) = some ad ∧ ∀ j u, (r.map (Value.int .u8))[j]? = some u → (wd.alloc (.cells #[] 5)).cell? (ad.add j) = some u := by
        by_cases hcz : c = p + 2
        · have hr0 : r = [] := List.eq_nil_of_length_eq_zero (by omega)
          exact ⟨_, if_pos hcz, fun j u hj => by rw [hr0] at hj; simp at hj⟩
        · refine ⟨_, if_neg hcz, fun j u hj => ?_⟩
          rw [List.getElem?_map] at hj
          obtain ⟨y, hy, rfl⟩ := Option.map_eq_some_iff.1 hj
          obtain ⟨b', off', e, -, hcc⟩ := HS2.out (by have := (List.getElem?_eq_some_iff.1 hy).1; omega)
          injection e with e
          injection e with e1 e2 _
          subst e1 e2
          have hth := hcc j y hy
          rw [show (⟨bb, off + (p + 2), none⟩ : Addr).add j = ⟨bb, off + (p + 2) + j, none⟩ by simp [Addr.add]]
          exact hga.cell hth (by simp)
      obtain ⟨ad, had, hcells⟩ := hadx
      have hm : p + 2 + r.length - (p + 2) = r.length := by omega
      have HAD := Lib.hid had; have HM := Lib.hid hm; have HCE := Lib.hid hcells; have HOW := Lib.hid how; have HGA := Lib.hid hga
      clear had hm hcells how hga hgd
      have hwz : wr.heap.size ≤ wd.heap.size := Nat.le_of_eq hzd
      have hbz : Bb < wd.heap.size := by omega
      clear hzd
      gi_wp2_with (first
        | (gi_at_builtin; go_must (refine wpListIn_append_own _ rfl _ _ 34 rfl n₀ 5 i0 (.int .u8 0) 1 1 Try.underlying34 hi hz0 hz1 hz2 rfl (by decide) (.slice (some ⟨wd.heap.size, 0, none⟩) 0 0) 0 [] rfl HOW.out ad r.length (c - (p + 2)) (r.map (Value.int .u8)) (by simp only [Act.eval]; show Value.slice (if c = p + 2 then _ else _) (p + 2 + r.length - (p + 2)) (c - (p + 2)) = _; rw [HAD.out, HM.out]) (by simp) HCE.out (by simp [Value.oneCell']) (by unfold maxLen; omega) (by omega) (by simp; omega) ?_
                                   intro v3 w4 hown3 hgrow3 hnil
                                   obtain ⟨g3, c3, rfl, hc3⟩ := own_some hown3 (fun e => by have := (hnil.1 e).1; injection this with this; cases this)
                                   have hg4 : wr.grownBy w4 none := grown_fresh HGA.out hgrow3 (by omega)
                                   have hJ4 : J pre w4 := HJ.out pre wr w4 none HJS.out hg4 (by simp)
                                   have hB4 : KB n₀ Bb wr w4 := ⟨(Below.refl n₀ wr).grown hg4 hn₀w (by simp), hg4.block Bb hBw (by simp)⟩
                                   rw [Nat.zero_add] at hown3
                                   obtain ⟨fn, tmps, assign, bd, hy, hR⟩ := HY.out pre ⟨(p : Int), g3, c3, r⟩ w4 hJ4 hown3 HLP.out
                                   dsimp only [PIt.enc] at hy
                                   rw [Nat.zero_add]))
        | ((try refine ⟨hdd _, ?_⟩); refine hR.mono ?_; clear hR; rintro e W3 ⟨rfl, hJ3, hk3⟩))
      have hps : ((p : Int) + (2 + (r.length : Int))) = ((joinF (done ++ [r])).length : Int) := by
        rw [joinF_append, List.length_append, HP.out]
        simp only [joinF, hdr, List.length_append, List.length_cons, List.length_nil]
        omega
      have hends : (pre ++ [(⟨(p : Int), g3, c3, r⟩ : PIt)]).map PIt.g = sites 0 (done ++ [r]) := by
        rw [List.map_append, HPRE.out, sites_append, HP.out]
        simp only [List.map_cons, List.map_nil, PIt.g, sites, Int.zero_add]
      have hdr2 : ps = (done ++ [r]) ++ more := by rw [HDR.out, HRE.out, List.append_assoc]; rfl
      have hb3 : KB n₀ Bb w0 W3 := HKB.out.trans (hB4.trans hk3)
      have HPQ := Lib.hid hps; have HEN := Lib.hid hends; have HD2 := Lib.hid hdr2
      clear hps hends hdr2
      go_roundw
      case rel => exact ⟨_, _, more, by rw [← HPQ.out], HD2.out, HEN.out, hJ3, hb3⟩
      case measure => simp [intOf]; omega
end Go.Proofs.Ythpgfgnifbhjpaa
