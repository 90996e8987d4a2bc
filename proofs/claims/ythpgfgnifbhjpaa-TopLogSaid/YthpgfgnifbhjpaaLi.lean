/- wal.walk: the iterator over the records at a text's front. -/
import Derived.Test.YthpgfgnifbhjpaaLv
import Derived.Test.YthpgfgnifbhjpaaLg
import Derived.Test.YthpgfgnifbhjpaaLd
import Derived.Test.YthpgfgnifbhjpaaLw
import Derived.WalkKit
import Derived.OwnWalkIn
import Derived.TacticsInMore
import Derived.LoopNIn
import Derived.LoopIn
import Derived.IntWalk
import Derived.Deep.QuietTactic
import Derived.BigQuiet
import Derived.BigRegionIn
namespace Go.Proofs.Ythpgfgnifbhjpaa
open Go.RowKit Go.Shelf

attribute [local go_sem] Oper.semAt_some
set_option linter.unusedVariables false

def catF : List (Int × List Int) → List Int
  | [] => []
  | r :: rs => recF r.1 r.2 ++ catF rs
def RecOk (r : Int × List Int) : Prop := 1 ≤ r.1 ∧ r.1 ≤ 255 ∧ r.2.length ≤ 1024 ∧ Bytes r.2
/-- What is left of a record that a crash has cut; or nothing. -/
def Tail (t : List Int) : Prop := t.length < 7 ∨ ∃ r, RecOk r ∧ t.length < r.2.length + 7 ∧ t = (recF r.1 r.2).take t.length
theorem catF_append : ∀ a b : List (Int × List Int), catF (a ++ b) = catF a ++ catF b
  | [], _ => rfl
  | r :: a, b => by simp only [List.cons_append, catF, catF_append a b, List.append_assoc]
theorem catF_bytes : ∀ rs : List (Int × List Int), (∀ r ∈ rs, RecOk r) → Bytes (catF rs)
  | [], _ => fun x hx => by cases hx
  | r :: rs, h => fun x hx => by
    have h1 := h r (List.mem_cons_self ..)
    rcases List.mem_append.1 hx with hx | hx
    · exact recF_bytes h1.1 h1.2.1 h1.2.2.2 h1.2.2.1 x hx
    · exact catF_bytes rs (fun q hq => h q (List.mem_cons_of_mem _ hq)) x hx

/-- What a round is handed: where the record ends, its kind, its body in new memory. -/
structure RIt where
  e : Int
  k : Int
  A : Option Addr
  c : Nat
  body : List Int
def RIt.g (x : RIt) : Int × Int × List Int := (x.e, x.k, x.body)
def RIt.enc (x : RIt) : Array Value := #[.int .i64 x.e, .agg #[.int .i64 x.k, .slice x.A x.body.length x.c]]
def RIt.V (n₀ : Nat) (x : RIt) (W : World) : Prop := W.ownsRow n₀ 5 1 (.slice x.A x.body.length x.c) x.body.length (x.body.map (Value.int .u8))
/-- What stands below a block, and one block besides, is as it was. -/
def KB (n₀ Bb : Nat) (w w' : World) : Prop := Below n₀ w w' ∧ w'.heap[Bb]? = w.heap[Bb]?
theorem KB.refl (n₀ Bb : Nat) (w : World) : KB n₀ Bb w w := ⟨Below.refl _ _, rfl⟩
theorem KB.trans {n₀ Bb : Nat} {a b c : World} (h : KB n₀ Bb a b) (k : KB n₀ Bb b c) : KB n₀ Bb a c := ⟨h.1.trans k.1, k.2.trans h.2⟩
/-- The records, and where they end. -/
def ends : Int → List (Int × List Int) → List (Int × Int × List Int)
  | _, [] => []
  | p, r :: rs => (p + (r.2.length + 7), r.1, r.2) :: ends (p + (r.2.length + 7)) rs
theorem ends_append : ∀ (a b : List (Int × List Int)) (p : Int), ends p (a ++ b) = ends p a ++ ends (p + (catF a).length) b
  | [], b, p => by simp [ends, catF]
  | r :: a, b, p => by
    have := ends_append a b (p + (r.2.length + 7))
    simp only [List.cons_append, ends, this, catF, List.length_append, recF_len]
    congr 3
    omega

theorem head_get {k : Int} {body rest : List Int} : (recF k body ++ rest)[0]? = some ((body.length : Int) / 256) ∧ (recF k body ++ rest)[1]? = some ((body.length : Int) % 256) ∧ (recF k body ++ rest)[2]? = some k := by
  simp [recF, headF]

theorem ends_length : ∀ (rs : List (Int × List Int)) (p : Int), (ends p rs).length = rs.length
  | [], _ => rfl
  | r :: rs, p => by simp only [ends, List.length_cons, ends_length rs]
theorem getElem?_past {a c : List Int} {i : Nat} : (a ++ c)[a.length + i]? = c[i]? := by
  rw [List.getElem?_append_right (by omega)]
  congr 1
  omega
theorem look {b tail : List Int} {rs done rest : List (Int × List Int)} (hb : b = catF rs ++ tail) (hdr : rs = done ++ rest) (hrs : ∀ r ∈ rs, RecOk r) (ht : Tail tail) :
    (b.length < (catF done).length + 7 ∧ (catF done).length ≤ b.length) ∧ rest = [] ∨ ∃ r, RecOk r ∧ (catF done).length + 7 ≤ b.length ∧ b[(catF done).length]? = some ((r.2.length : Int) / 256) ∧ b[(catF done).length + 1]? = some ((r.2.length : Int) % 256) ∧ b[(catF done).length + 2]? = some r.1 ∧
      (b.length < (catF done).length + (r.2.length + 7) ∧ rest = [] ∨ ∃ more, rest = r :: more ∧ (catF done).length + (r.2.length + 7) ≤ b.length ∧ b.drop (catF done).length = recF r.1 r.2 ++ (catF more ++ tail)) := by
  subst hdr
  rw [catF_append, List.append_assoc] at hb
  have hdrop : b.drop (catF done).length = catF rest ++ tail := by rw [hb, List.drop_left]
  have hlen : b.length = (catF done).length + (catF rest ++ tail).length := by rw [hb, List.length_append]
  have hget : ∀ i, b[(catF done).length + i]? = (catF rest ++ tail)[i]? := fun i => by rw [hb]; exact getElem?_past
  have hget0 : b[(catF done).length]? = (catF rest ++ tail)[0]? := hget 0
  cases rest with
  | nil =>
    simp only [catF, List.nil_append] at hdrop hlen hget hget0
    by_cases h7 : tail.length < 7
    · exact .inl ⟨⟨by omega, by omega⟩, rfl⟩
    · rcases ht with h | ⟨r, hok, hl, he⟩
      · exact absurd h h7
      · have hr := head_get (k := r.1) (body := r.2) (rest := [])
        rw [List.append_nil] at hr
        have ht : ∀ i, i < 7 → tail[i]? = (recF r.1 r.2)[i]? := fun i hi => by
          rw [he, List.getElem?_take, if_pos (by omega)]
        exact .inr ⟨r, hok, by omega, by rw [hget0, ht 0 (by omega)]; exact hr.1, by rw [hget 1, ht 1 (by omega)]; exact hr.2.1, by rw [hget 2, ht 2 (by omega)]; exact hr.2.2, .inl ⟨by omega, rfl⟩⟩
  | cons r more =>
    have hok : RecOk r := hrs r (by simp)
    have hr := head_get (k := r.1) (body := r.2) (rest := catF more ++ tail)
    have hc : catF (r :: more) ++ tail = recF r.1 r.2 ++ (catF more ++ tail) := by rw [catF, List.append_assoc]
    rw [hc] at hdrop hlen hget hget0
    rw [List.length_append, recF_len] at hlen
    exact .inr ⟨r, hok, by omega, by rw [hget0]; exact hr.1, by rw [hget 1]; exact hr.2.1, by rw [hget 2]; exact hr.2.2, .inr ⟨more, rfl, by omega, hdrop⟩⟩
/-- Where a record's parts lie. -/
theorem parts_of {b rest : List Int} {p : Nat} {k : Int} {body : List Int} (h : b.drop p = recF k body ++ rest) :
    (b.drop p).take (body.length + 3) = headF k body ∧ (b.drop (p + 3)).take body.length = body ∧ (b.drop (p + 3 + body.length)).take 4 = putF (sumF (headF k body)) := by
  have h3 : b.drop (p + 3) = body ++ (putF (sumF (headF k body)) ++ rest) := by
    rw [← List.drop_drop, h]
    simp [recF, headF]
  refine ⟨?_, ?_, ?_⟩
  · have hl : (headF k body).length = body.length + 3 := by simp [headF]
    rw [h, recF, List.append_assoc, ← hl, List.take_left]
  · rw [h3, List.take_left]
  · rw [← List.drop_drop, h3, List.drop_left]
    have : (putF (sumF (headF k body))).length = 4 := rfl
    rw [← this, List.take_left]
theorem bytes_sub {w : World} {P : Nat → Prop} {bb off : Nat} {b : List Int} (h : BytesP w P (some ⟨bb, off, none⟩) b) (i m : Nat) : BytesAt w (some ⟨bb, off + i, none⟩) ((b.drop i).take m) := fun hp => by
  have hl : 0 < b.length := by
    rw [List.length_take, List.length_drop] at hp
    omega
  obtain ⟨b', off', e, _, hc⟩ := h hl
  injection e with e
  injection e with e1 e2 _
  subst e1 e2
  refine ⟨_, _, rfl, trivial, fun j x hx => ?_⟩
  rw [List.getElem?_take] at hx
  split at hx
  · rw [List.getElem?_drop] at hx
    have := hc _ x hx
    rw [show off + (i + j) = off + i + j by omega] at this
    exact this
  · cases hx

set_option maxRecDepth 100000 in
set_option maxHeartbeats 8000000 in
theorem wal_walk1 (n l n₀ Bb : Nat) (A : Option Addr) (c : Nat) (b : List Int) (rs : List (Int × List Int)) (tail : List Int) (w0 : World) (J : List RIt → World → Prop)
    (hb : b = catF rs ++ tail) (hrs : ∀ r ∈ rs, RecOk r) (ht : Tail tail) (hlen : b.length ≤ 100000) (hlc : b.length ≤ c) (hcm : c ≤ maxLen) (hBb : Bb < w0.heap.size) (hc : w0.cell? ⟨Bb, 0, none⟩ = some (.slice A b.length c)) (hA : BytesP w0 (· < n₀) A b) (hn₀ : n₀ ≤ w0.heap.size)
    (hJ : AbidesFrom w0.heap.size J)
    (hY : ∀ pre x W1, J pre W1 → RIt.V n₀ x W1 → pre.length < rs.length → YieldAt Fence.wide (n - 1) Try.prog l x.enc W1 fun e W' => e = .returned (.bool true) ∧ J (pre ++ [x]) W' ∧ KB n₀ Bb W1 W') (h0 : J [] w0) :
    CallsIn Fence.wide n Try.prog 32 #[.func (.yield l) #[] #[], .pointer (some ⟨Bb, 0, none⟩)] w0 fun e W' => (∃ v, e = .returned v) ∧ ∃ xs, xs.map RIt.g = ends 0 rs ∧ J xs W' := by
  refine callsIn_of_wp Try.func32 rfl trivial ?_ rfl
  simp only [Try.ntmps32, List.size_toArray, List.length_cons, List.length_nil, Nat.reduceAdd, Nat.reduceSub, Array.replicate_succ, Array.replicate_zero, List.push_toArray, List.append_toArray, List.nil_append, List.cons_append]
  have HBE := Lib.hid hb; have HJ := Lib.hid hJ; have HY := Lib.hid hY; have HRS := Lib.hid hrs; have HTL := Lib.hid ht
  clear hb hJ hY hrs ht
  gi_wp2
  gi_loopw [3, 4, 5, 6, 7] (fun at_ _ _ _ _ wr => ∃ (pre : List RIt) (done rest : List (Int × List Int)), at_ = .int .i64 (catF done).length ∧ rs = done ++ rest ∧ pre.map RIt.g = ends 0 done ∧ J pre wr ∧ KB n₀ Bb w0 wr) (fun at_ _ _ _ _ _ => b.length - (intOf at_).toNat)
  case atStart => exact ⟨[], [], rs, rfl, rfl, rfl, h0, KB.refl _ _ _⟩
  case round =>
    obtain ⟨pre, done, rest, rfl, hdr, hpre, hJs, hKB⟩ := hrel
    have hB := hKB.1
    have hBw : Bb < wr.heap.size := Nat.lt_of_lt_of_le hBb hB.size
    have hcw := (World.cell?_of_block (a := ⟨Bb, 0, none⟩) hKB.2).trans hc
    have hlook := look HBE.out hdr HRS.out HTL.out
    have hpl : pre.length = done.length := by
      have := congrArg List.length hpre
      rw [List.length_map, ends_length] at this
      exact this
    have HKB := Lib.hid hKB
    clear hKB
    have HDR := Lib.hid hdr; have HPRE := Lib.hid hpre; have HJS := Lib.hid hJs
    clear hdr hpre hJs
    generalize hp : (catF done).length = p at *
    have HP := Lib.hid hp
    clear hp
    have hdd : ∀ k : Nat, (Fence.wide.depth.isSome = true → 1 ≤ k) := fun k h => absurd h (by decide)
    have hdr0 : ∀ m, J pre (wr.drewN m) := fun m => HJ.out pre wr _ none HJS.out ⟨rfl, rfl, rfl, Nat.le_refl _, fun _ _ _ => rfl⟩ (by simp)
    have HD0 := Lib.hid hdr0
    clear hdr0
    rcases hlook with ⟨⟨hsh, hle⟩, hrest⟩ | ⟨r, hok, hlo, b0, b1, b2, hwhole⟩
    · have HRE := Lib.hid hrest
      clear hrest
      have q1 : (b.length : Int) - (p : Int) < 7 := by omega
      gi_wp2
      go_end0
      exact ⟨⟨_, rfl⟩, pre, by rw [HPRE.out, HDR.out, HRE.out, List.append_nil], HD0.out 0⟩
    · obtain ⟨bb, off, rfl, hbb, hcl⟩ := hA (by omega)
      have z0 := (hB.cell (p := ⟨bb, off + p, none⟩) hbb).trans (hcl p _ b0)
      have z1 := (hB.cell (p := ⟨bb, off + (p + 1), none⟩) hbb).trans (hcl (p + 1) _ b1)
      have z2 := (hB.cell (p := ⟨bb, off + (p + 2), none⟩) hbb).trans (hcl (p + 2) _ b2)
      obtain ⟨k, body⟩ := r
      obtain ⟨k1, k2, hbl, hby⟩ := hok
      simp only at *
      have hor : bits .or .i64 ((body.length : Int) / 256 * 256) ((body.length : Int) % 256) = (body.length : Int) := by
        rw [or_i64 (by omega) (by omega) (by omega) (by omega)]; omega
      clear b0 b1 b2 hcl
      have p0 : (0 : Int) ≤ (p : Int) := by omega
      have p7 : (7 : Int) ≤ (b.length : Int) - (p : Int) := by omega
      have pl : (p : Int) + 7 ≤ (b.length : Int) := by omega
      have pa : (p : Int) < (b.length : Int) := by omega
      have pb : (p : Int) + 1 < (b.length : Int) := by omega
      have pc : (p : Int) + 2 < (b.length : Int) := by omega
      have p1 : (0 : Int) ≤ (p : Int) + 1 := by omega
      have p2 : (0 : Int) ≤ (p : Int) + 2 := by omega
      have kz : (k == 0) = false := by simp; omega
      have lb : ¬ (1024 : Int) < (body.length : Int) := by omega
      rcases hwhole with ⟨hpart, hrest⟩ | ⟨more, hrest, hfull, hdrop⟩
      · have HRE := Lib.hid hrest
        clear hrest
        have q1 : (b.length : Int) < (p : Int) + 3 + (body.length : Int) + 4 := by omega
        gi_wp2
        refine wpIn_wide.2 ?_
        go_quiet (fail)
        gi_wp2
        refine bodyPost_ret (results_none rfl _ _ _) rfl ?_
        exact ⟨⟨_, rfl⟩, pre, by rw [HPRE.out, HDR.out, HRE.out, List.append_nil], HD0.out _⟩
      · have hAw : BytesP wr (fun _ => True) (some ⟨bb, off, none⟩) b := hA.keep fun b' hb' _ => ⟨trivial, hB.block b' hb'⟩
        obtain ⟨e1, e2, e3⟩ := parts_of hdrop
        have s1 := bytes_sub hAw p (body.length + 3)
        have s2 := bytes_sub hAw (p + 3) body.length
        have s3 := bytes_sub hAw (p + 3 + body.length) 4
        rw [e1] at s1
        rw [e2] at s2
        rw [e3] at s3
        have hsl := sumF_lt (headF k body)
        have hn₀w : n₀ ≤ wr.heap.size := Nat.le_trans hn₀ hB.size
        have q1 : ¬ (b.length : Int) < (p : Int) + 3 + (body.length : Int) + 4 := by omega
        have g1 : ∀ W, wr.grownBy W none → Calls Try.prog 33 #[.slice (some ⟨bb, off + (p + 3 + body.length), none⟩) 4 (c - (p + 3 + body.length))] W fun e W' => e = .returned (.tuple #[.int .u64 (sumF (headF k body)), .int .i64 0]) ∧ W = W' := fun W hW => by
          have := get_any (some ⟨bb, off + (p + 3 + body.length), none⟩) (c - (p + 3 + body.length)) (putF (sumF (headF k body))) W (s3.keep fun b' _ hlt => ⟨trivial, hW.block b' hlt (by simp)⟩) (putF_bytes _ hsl.1 hsl.2) rfl
          rw [get_put _ hsl.1 hsl.2] at this
          exact this
        have g2 : ∀ W, wr.grownBy W none → Calls Try.prog 13 #[.slice (some ⟨bb, off + p, none⟩) (body.length + 3) (c - p)] W fun e W' => e = .returned (.int .u32 (sumF (headF k body))) ∧ W = W' := fun W hW => by
          have hl : (headF k body).length = body.length + 3 := by simp [headF]
          have := sum_any (some ⟨bb, off + p, none⟩) (c - p) (headF k body) W (s1.keep fun b' _ hlt => ⟨trivial, hW.block b' hlt (by simp)⟩) (headF_bytes k1 k2 hby hbl) (by unfold maxLen; omega)
          rw [hl] at this
          exact this
        have g3 : ∀ W, wr.grownBy W none → Calls Try.prog 28 #[.slice (some ⟨bb, off + (p + 3), none⟩) body.length (c - (p + 3))] W fun e w2 => ∃ A5 c5, e = .returned (.slice A5 body.length c5) ∧
            ((∀ ee, RIt.V n₀ ⟨ee, k, A5, c5, body⟩ w2) ∧ J pre w2 ∧ KB n₀ Bb wr w2) ∧ w2.cell? ⟨Bb, 0, none⟩ = some (.slice (some ⟨bb, off, none⟩) b.length c) ∧ w2.cell? ⟨bb, off + (p + 2), none⟩ = some (.int .u8 k) := fun W hW => by
          refine (clone_any (some ⟨bb, off + (p + 3), none⟩) (c - (p + 3)) body W (s2.keep fun b' _ hlt => ⟨trivial, hW.block b' hlt (by simp)⟩) (by omega) (by omega)).mono ?_
          rintro e w2 ⟨v, rfl, hown, hb2⟩
          obtain ⟨A5, c5, rfl, -, -, -⟩ := bytes_of_own (P := fun _ => True) hown (fun _ _ => trivial)
          have hg2 : wr.grownBy w2 none := grown_trans hW (grown_of_below hb2 none)
          have hbel := (Below.refl n₀ wr).grown hg2 hn₀w (by simp)
          exact ⟨A5, c5, rfl, ⟨fun ee => own_mono hown (Nat.le_trans hn₀w hW.size), HJ.out pre wr w2 none HJS.out hg2 (by simp), hbel, hg2.block Bb hBw (by simp)⟩, (World.cell?_of_block (a := ⟨Bb, 0, none⟩) (hg2.block Bb hBw (by simp))).trans hcw, (hbel.cell (p := ⟨bb, off + (p + 2), none⟩) hbb).trans z2⟩
        have hlenp : pre.length < rs.length := by rw [HDR.out, List.length_append, hrest, List.length_cons]; omega
        have HG1 := Lib.hid g1; have HG2 := Lib.hid g2; have HG3 := Lib.hid g3; have HRE := Lib.hid hrest; have HLP := Lib.hid hlenp
        obtain ⟨hs0, hs1⟩ := hsl
        clear g1 g2 g3 hrest hlenp hdrop e1 e2 e3 s1 s2 s3 hAw
        generalize sumF (headF k body) = sm at *
        gi_wp2
        refine wpIn_wide.2 ?_
        go_quiet (fail)
        gi_wp2
        refine ⟨trivial, fun hh => absurd hh (by decide), ?_⟩
        refine (callsIn_wide.2 (HG1.out _ (by exact ⟨rfl, rfl, rfl, Nat.le_refl _, fun _ _ _ => rfl⟩))).mono ?_
        rintro e w2 ⟨rfl, rfl⟩
        have hmx : Try.prog.follows .mixedOrders = true := by kernel_rfl
        gi_wp2
        have f1 : IntKind.i64.wrap ((p : Int) + 3 + (body.length : Int)) = (p : Int) + 3 + (body.length : Int) := IntWalk.i64_in _ (by omega)
        have f2 : IntKind.i64.wrap ((p : Int) + 2) = (p : Int) + 2 := IntWalk.i64_in _ (by omega)
        have f3 : IntKind.i64.wrap ((p : Int) + 3) = (p : Int) + 3 := IntWalk.i64_in _ (by omega)
        have f4 : IntKind.i64.wrap k = k := IntWalk.i64_in _ (by omega)
        have f5 : IntKind.u32.wrap (sm : Int) = (sm : Int) := IntWalk.u32_in _ (by omega)
        have f6 : ((p : Int) + 3 + (body.length : Int)).toNat = p + 3 + body.length := by omega
        have f7 : ((p : Int) + 3).toNat = p + 3 := by omega
        have f8 : ((p : Int) + 2).toNat = p + 2 := by omega
        have f9 : p + 3 + body.length - p = body.length + 3 := by omega
        have f10 : p + 3 + body.length - (p + 3) = body.length := by omega
        have f11 : (p : Int) ≤ (p : Int) + 3 + (body.length : Int) := by omega
        have f12 : (p : Int) + 3 ≤ (p : Int) + 3 + (body.length : Int) := by omega
        have f13 : (p : Int) + 3 + (body.length : Int) ≤ (c : Int) := by omega
        have f14 : (0 : Int) ≤ (p : Int) + 3 := by omega
        have f15 : ¬ c = p := by omega
        have f16 : ¬ c = p + 3 := by omega
        refine Held.region hmx (fun W => W.cell? ⟨Bb, 0, none⟩ = some (.slice (some ⟨bb, off, none⟩) b.length c) ∧ W.cell? ⟨bb, off + (p + 2), none⟩ = some (.int .u8 k)) ?_
        change Held _ _ _ _ _ _ _ _ _ _ (World.drew _)
        refine Held.take (v := ?v0) 0 (by kernel_rfl) rfl ⟨hcw, z2⟩ (by simp only [List.getElem?_toArray, List.getElem?_cons_zero]; rfl) (by exact fun _ _ _ h => h) (by kernel_rfl) (by kernel_rfl) (by rfl) ?hv0 (fun _ => rfl) ?rest0
        case hv0 => (rintro W ⟨y1, y2⟩; go_simp; first | done | with_reducible rfl)
        simp only [Act.put, List.setIfInBounds_toArray, List.set_cons_zero, List.set_cons_succ]
        refine Held.take (v := ?v1) 1 (by kernel_rfl) rfl ⟨hcw, z2⟩ (by simp only [List.getElem?_toArray, List.getElem?_cons_zero, List.getElem?_cons_succ]; rfl) (by exact fun _ _ _ h => h) (by kernel_rfl) (by kernel_rfl) (by rfl) ?hv1 (fun _ => rfl) ?rest1
        case hv1 => (rintro W ⟨y1, y2⟩; go_simp; first | done | with_reducible rfl)
        simp only [Act.put, List.setIfInBounds_toArray, List.set_cons_zero, List.set_cons_succ]
        refine Held.take (v := ?v2) 2 (by kernel_rfl) rfl ⟨hcw, z2⟩ (by simp only [List.getElem?_toArray, List.getElem?_cons_zero, List.getElem?_cons_succ]; rfl) (by exact fun _ _ _ h => h) (by kernel_rfl) (by kernel_rfl) (by rfl) ?hv2 (fun _ => rfl) ?rest2
        case hv2 => (rintro W ⟨y1, y2⟩; go_simp; first | done | with_reducible rfl)
        simp only [Act.put, List.setIfInBounds_toArray, List.set_cons_zero, List.set_cons_succ]
        refine Held.take (v := ?v3) 3 (by kernel_rfl) rfl ⟨hcw, z2⟩ (by simp only [List.getElem?_toArray, List.getElem?_cons_zero, List.getElem?_cons_succ]; rfl) (by exact fun _ _ _ h => h) (by kernel_rfl) (by kernel_rfl) (by rfl) ?hv3 (fun _ => rfl) ?rest3
        case hv3 => (rintro W ⟨y1, y2⟩; go_simp; first | done | with_reducible rfl)
        simp only [Act.put, List.setIfInBounds_toArray, List.set_cons_zero, List.set_cons_succ]
        refine Held.take (v := ?v4) 4 (by kernel_rfl) rfl ⟨hcw, z2⟩ (by simp only [List.getElem?_toArray, List.getElem?_cons_zero, List.getElem?_cons_succ]; rfl) (by exact fun _ _ _ h => h) (by kernel_rfl) (by kernel_rfl) (by rfl) ?hv4 (fun _ => rfl) ?rest4
        case hv4 => (rintro W ⟨y1, y2⟩; go_simp; first | done | with_reducible rfl)
        simp only [Act.put, List.setIfInBounds_toArray, List.set_cons_zero, List.set_cons_succ]
        refine Held.take (v := ?v5) 5 (by kernel_rfl) rfl ⟨hcw, z2⟩ (by simp only [List.getElem?_toArray, List.getElem?_cons_zero, List.getElem?_cons_succ]; rfl) (by exact fun _ _ _ h => h) (by kernel_rfl) (by kernel_rfl) (by rfl) ?hv5 (fun _ => rfl) ?rest5
        case hv5 => (rintro W ⟨y1, y2⟩; go_simp; first | done | with_reducible rfl)
        simp only [Act.put, List.setIfInBounds_toArray, List.set_cons_zero, List.set_cons_succ]
        refine Held.take (v := ?v6) 6 (by kernel_rfl) rfl ⟨hcw, z2⟩ (by simp only [List.getElem?_toArray, List.getElem?_cons_zero, List.getElem?_cons_succ]; rfl) (by exact fun _ _ _ h => h) (by kernel_rfl) (by kernel_rfl) (by rfl) ?hv6 (fun _ => rfl) ?rest6
        case hv6 => (rintro W ⟨y1, y2⟩; go_simp; first | done | with_reducible rfl)
        simp only [Act.put, List.setIfInBounds_toArray, List.set_cons_zero, List.set_cons_succ]
        refine Held.only 7 (by simp only [List.getElem?_toArray, List.getElem?_cons_zero, List.getElem?_cons_succ]; rfl) (by kernel_rfl) (by rfl) ?_
        intro K hK
        gi_big_op
        refine ⟨trivial, fun hh => absurd hh (by decide), ?_⟩
        refine (callsIn_wide.2 (HG2.out _ (by exact ⟨rfl, rfl, rfl, Nat.le_refl _, fun _ _ _ => rfl⟩))).mono ?_
        rintro e w2 ⟨rfl, rfl⟩
        dsimp only
        refine hK _ _ ⟨hcw, z2⟩ ?_
        clear hK K
        refine Held.take (v := ?v8) 8 (by kernel_rfl) rfl ⟨hcw, z2⟩ (by simp only [List.getElem?_toArray, List.getElem?_cons_zero, List.getElem?_cons_succ]; rfl) (by exact fun _ _ _ h => h) (by kernel_rfl) (by kernel_rfl) (by rfl) ?hv8 (fun _ => rfl) ?rest8
        case hv8 => (rintro W ⟨y1, y2⟩; go_simp; first | done | with_reducible rfl)
        simp only [Act.put, List.setIfInBounds_toArray, List.set_cons_zero, List.set_cons_succ]
        refine Held.take (v := ?v9) 9 (by kernel_rfl) rfl ⟨hcw, z2⟩ (by simp only [List.getElem?_toArray, List.getElem?_cons_zero, List.getElem?_cons_succ]; rfl) (by exact fun _ _ _ h => h) (by kernel_rfl) (by kernel_rfl) (by rfl) ?hv9 (fun _ => rfl) ?rest9
        case hv9 => (rintro W ⟨y1, y2⟩; go_simp; first | done | with_reducible rfl)
        simp only [Act.put, List.setIfInBounds_toArray, List.set_cons_zero, List.set_cons_succ]
        refine Held.take (v := ?v10) 10 (by kernel_rfl) rfl ⟨hcw, z2⟩ (by simp only [List.getElem?_toArray, List.getElem?_cons_zero, List.getElem?_cons_succ]; rfl) (by exact fun _ _ _ h => h) (by kernel_rfl) (by kernel_rfl) (by rfl) ?hv10 (fun _ => rfl) ?rest10
        case hv10 => (rintro W ⟨y1, y2⟩; go_simp; first | done | with_reducible rfl)
        simp only [Act.put, List.setIfInBounds_toArray, List.set_cons_zero, List.set_cons_succ]
        refine Held.take (v := ?v11) 11 (by kernel_rfl) rfl ⟨hcw, z2⟩ (by simp only [List.getElem?_toArray, List.getElem?_cons_zero, List.getElem?_cons_succ]; rfl) (by exact fun _ _ _ h => h) (by kernel_rfl) (by kernel_rfl) (by rfl) ?hv11 (fun _ => rfl) ?rest11
        case hv11 => (rintro W ⟨y1, y2⟩; go_simp; first | done | with_reducible rfl)
        simp only [Act.put, List.setIfInBounds_toArray, List.set_cons_zero, List.set_cons_succ]
        refine Held.take (v := ?v12) 12 (by kernel_rfl) rfl ⟨hcw, z2⟩ (by simp only [List.getElem?_toArray, List.getElem?_cons_zero, List.getElem?_cons_succ]; rfl) (by exact fun _ _ _ h => h) (by kernel_rfl) (by kernel_rfl) (by rfl) ?hv12 (fun _ => rfl) ?rest12
        case hv12 => (rintro W ⟨y1, y2⟩; go_simp; first | done | with_reducible rfl)
        simp only [Act.put, List.setIfInBounds_toArray, List.set_cons_zero, List.set_cons_succ]
        refine Held.take (v := ?v13) 13 (by kernel_rfl) rfl ⟨hcw, z2⟩ (by simp only [List.getElem?_toArray, List.getElem?_cons_zero, List.getElem?_cons_succ]; rfl) (by exact fun _ _ _ h => h) (by kernel_rfl) (by kernel_rfl) (by rfl) ?hv13 (fun _ => rfl) ?rest13
        case hv13 => (rintro W ⟨y1, y2⟩; go_simp; first | done | with_reducible rfl)
        simp only [Act.put, List.setIfInBounds_toArray, List.set_cons_zero, List.set_cons_succ]
        refine Held.take (v := ?v14) 14 (by kernel_rfl) rfl ⟨hcw, z2⟩ (by simp only [List.getElem?_toArray, List.getElem?_cons_zero, List.getElem?_cons_succ]; rfl) (by exact fun _ _ _ h => h) (by kernel_rfl) (by kernel_rfl) (by rfl) ?hv14 (fun _ => rfl) ?rest14
        case hv14 => (rintro W ⟨y1, y2⟩; go_simp; first | done | with_reducible rfl)
        simp only [Act.put, List.setIfInBounds_toArray, List.set_cons_zero, List.set_cons_succ]
        refine Held.take (v := ?v15) 15 (by kernel_rfl) rfl ⟨hcw, z2⟩ (by simp only [List.getElem?_toArray, List.getElem?_cons_zero, List.getElem?_cons_succ]; rfl) (by exact fun _ _ _ h => h) (by kernel_rfl) (by kernel_rfl) (by rfl) ?hv15 (fun _ => rfl) ?rest15
        case hv15 => (rintro W ⟨y1, y2⟩; go_simp; first | done | with_reducible rfl)
        simp only [Act.put, List.setIfInBounds_toArray, List.set_cons_zero, List.set_cons_succ]
        refine Held.take (v := ?v16) 16 (by kernel_rfl) rfl ⟨hcw, z2⟩ (by simp only [List.getElem?_toArray, List.getElem?_cons_zero, List.getElem?_cons_succ]; rfl) (by exact fun _ _ _ h => h) (by kernel_rfl) (by kernel_rfl) (by rfl) ?hv16 (fun _ => rfl) ?rest16
        case hv16 => (rintro W ⟨y1, y2⟩; go_simp; first | done | with_reducible rfl)
        simp only [Act.put, List.setIfInBounds_toArray, List.set_cons_zero, List.set_cons_succ]
        refine Held.take (v := ?v17) 17 (by kernel_rfl) rfl ⟨hcw, z2⟩ (by simp only [List.getElem?_toArray, List.getElem?_cons_zero, List.getElem?_cons_succ]; rfl) (by exact fun _ _ _ h => h) (by kernel_rfl) (by kernel_rfl) (by rfl) ?hv17 (fun _ => rfl) ?rest17
        case hv17 => (rintro W ⟨y1, y2⟩; go_simp; first | done | with_reducible rfl)
        simp only [Act.put, List.setIfInBounds_toArray, List.set_cons_zero, List.set_cons_succ]
        refine Held.take (v := ?v18) 18 (by kernel_rfl) rfl ⟨hcw, z2⟩ (by simp only [List.getElem?_toArray, List.getElem?_cons_zero, List.getElem?_cons_succ]; rfl) (by exact fun _ _ _ h => h) (by kernel_rfl) (by kernel_rfl) (by rfl) ?hv18 (fun _ => rfl) ?rest18
        case hv18 => (rintro W ⟨y1, y2⟩; go_simp; first | done | with_reducible rfl)
        simp only [Act.put, List.setIfInBounds_toArray, List.set_cons_zero, List.set_cons_succ]
        refine Held.take (v := ?v19) 19 (by kernel_rfl) rfl ⟨hcw, z2⟩ (by simp only [List.getElem?_toArray, List.getElem?_cons_zero, List.getElem?_cons_succ]; rfl) (by exact fun _ _ _ h => h) (by kernel_rfl) (by kernel_rfl) (by rfl) ?hv19 (fun _ => rfl) ?rest19
        case hv19 => (rintro W ⟨y1, y2⟩; go_simp; first | done | with_reducible rfl)
        simp only [Act.put, List.setIfInBounds_toArray, List.set_cons_zero, List.set_cons_succ]
        refine Held.take (v := ?v20) 20 (by kernel_rfl) rfl ⟨hcw, z2⟩ (by simp only [List.getElem?_toArray, List.getElem?_cons_zero, List.getElem?_cons_succ]; rfl) (by exact fun _ _ _ h => h) (by kernel_rfl) (by kernel_rfl) (by rfl) ?hv20 (fun _ => rfl) ?rest20
        case hv20 => (rintro W ⟨y1, y2⟩; go_simp; first | done | with_reducible rfl)
        simp only [Act.put, List.setIfInBounds_toArray, List.set_cons_zero, List.set_cons_succ]
        refine Held.take (v := ?v21) 21 (by kernel_rfl) rfl ⟨hcw, z2⟩ (by simp only [List.getElem?_toArray, List.getElem?_cons_zero, List.getElem?_cons_succ]; rfl) (by exact fun _ _ _ h => h) (by kernel_rfl) (by kernel_rfl) (by rfl) ?hv21 (fun _ => rfl) ?rest21
        case hv21 => (rintro W ⟨y1, y2⟩; go_simp; first | done | with_reducible rfl)
        simp only [Act.put, List.setIfInBounds_toArray, List.set_cons_zero, List.set_cons_succ]
        refine Held.take (v := ?v22) 22 (by kernel_rfl) rfl ⟨hcw, z2⟩ (by simp only [List.getElem?_toArray, List.getElem?_cons_zero, List.getElem?_cons_succ]; rfl) (by exact fun _ _ _ h => h) (by kernel_rfl) (by kernel_rfl) (by rfl) ?hv22 (fun _ => rfl) ?rest22
        case hv22 => (rintro W ⟨y1, y2⟩; go_simp; first | done | with_reducible rfl)
        simp only [Act.put, List.setIfInBounds_toArray, List.set_cons_zero, List.set_cons_succ]
        refine Held.take (v := ?v23) 23 (by kernel_rfl) rfl ⟨hcw, z2⟩ (by simp only [List.getElem?_toArray, List.getElem?_cons_zero, List.getElem?_cons_succ]; rfl) (by exact fun _ _ _ h => h) (by kernel_rfl) (by kernel_rfl) (by rfl) ?hv23 (fun _ => rfl) ?rest23
        case hv23 => (rintro W ⟨y1, y2⟩; go_simp; first | done | with_reducible rfl)
        simp only [Act.put, List.setIfInBounds_toArray, List.set_cons_zero, List.set_cons_succ]
        refine Held.only 24 (by simp only [List.getElem?_toArray, List.getElem?_cons_zero, List.getElem?_cons_succ]; rfl) (by kernel_rfl) (by rfl) ?_
        intro K hK
        gi_big_op
        refine ⟨trivial, fun hh => absurd hh (by decide), ?_⟩
        refine (callsIn_wide.2 (HG3.out _ (by exact ⟨rfl, rfl, rfl, Nat.le_refl _, fun _ _ _ => rfl⟩))).mono ?_
        rintro e w2 ⟨A5, c5, rfl, ⟨hV5, hJ5, hB5⟩, hx1, hx2⟩
        obtain ⟨fn, tmps, assign, bd, hy, hR⟩ := HY.out pre ⟨(p : Int) + 3 + (body.length : Int) + 4, k, A5, c5, body⟩ w2 hJ5 (hV5 _) HLP.out
        dsimp only [RIt.enc] at hy
        dsimp only
        refine hK _ _ ⟨hx1, hx2⟩ ?_
        clear hK K
        refine Held.take (v := ?v25) 25 (by kernel_rfl) rfl ⟨hx1, hx2⟩ (by simp only [List.getElem?_toArray, List.getElem?_cons_zero, List.getElem?_cons_succ]; rfl) (by exact fun _ _ _ h => h) (by kernel_rfl) (by kernel_rfl) (by rfl) ?hv25 (fun _ => rfl) ?rest25
        case hv25 => (rintro W ⟨y1, y2⟩; go_simp; first | done | with_reducible rfl)
        simp only [Act.put, List.setIfInBounds_toArray, List.set_cons_zero, List.set_cons_succ]
        refine Held.only 26 (by simp only [List.getElem?_toArray, List.getElem?_cons_zero, List.getElem?_cons_succ]; rfl) (by kernel_rfl) (by rfl) ?_
        intro K hK
        gi_big_op
        refine ⟨fun h => absurd h (by decide), ?_⟩
        refine hR.mono ?_
        clear hR
        rintro e W3 ⟨rfl, hJ3, hk3⟩
        dsimp only
        have HS3 : W3.cell? ⟨Bb, 0, none⟩ = some (.slice (some ⟨bb, off, none⟩) b.length c) ∧ W3.cell? ⟨bb, off + (p + 2), none⟩ = some (.int .u8 k) := ⟨(World.cell?_of_block (a := ⟨Bb, 0, none⟩) hk3.2).trans hx1, (hk3.1.cell (p := ⟨bb, off + (p + 2), none⟩) hbb).trans hx2⟩
        refine hK _ _ HS3 ?_
        clear hK K
        refine Held.take (v := ?v27) 27 (by kernel_rfl) rfl HS3 (by simp only [List.getElem?_toArray, List.getElem?_cons_zero, List.getElem?_cons_succ]; rfl) (by exact fun _ _ _ h => h) (by kernel_rfl) (by kernel_rfl) (by rfl) ?hv27 (fun _ => rfl) ?rest27
        case hv27 => (rintro W ⟨y1, y2⟩; go_simp; first | done | with_reducible rfl)
        simp only [Act.put, List.setIfInBounds_toArray, List.set_cons_zero, List.set_cons_succ]
        refine Held.take (v := ?v28) 28 (by kernel_rfl) rfl HS3 (by simp only [List.getElem?_toArray, List.getElem?_cons_zero, List.getElem?_cons_succ]; rfl) (by exact fun _ _ _ h => h) (by kernel_rfl) (by kernel_rfl) (by rfl) ?hv28 (fun _ => rfl) ?rest28
        case hv28 => (rintro W ⟨y1, y2⟩; go_simp; first | done | with_reducible rfl)
        simp only [Act.put, List.setIfInBounds_toArray, List.set_cons_zero, List.set_cons_succ]
        refine Held.done (by kernel_rfl) ?_
        all_goals (
          clear f15 f16 f1 f2 f3 f4 f5 f6 f7 f8 f9 f10 f11 f12 f13 f14
          have hps : ((p : Int) + 3 + (body.length : Int) + 4) = ((catF (done ++ [(k, body)])).length : Int) := by
            rw [catF_append, List.length_append, HP.out]
            simp only [catF, List.length_append, recF_len, List.length_nil]
            omega
          have hends : (pre ++ [(⟨(p : Int) + 3 + (body.length : Int) + 4, k, A5, c5, body⟩ : RIt)]).map RIt.g = ends 0 (done ++ [(k, body)]) := by
            rw [List.map_append, HPRE.out, ends_append, HP.out]
            have h7 : (p : Int) + 3 + (body.length : Int) + 4 = 0 + (p : Int) + ((body.length : Int) + 7) := by omega
            simp only [List.map_cons, List.map_nil, RIt.g, ends, h7]
          have hdr2 : rs = (done ++ [(k, body)]) ++ more := by rw [HDR.out, HRE.out, List.append_assoc]; rfl
          have hb3 : KB n₀ Bb w0 W3 := HKB.out.trans (hB5.trans hk3)
          have HPS := Lib.hid hps; have HEN := Lib.hid hends; have HD2 := Lib.hid hdr2
          clear hps hends hdr2
          gi_wp2
          go_roundw
          case rel => exact ⟨_, _, more, by rw [← HPS.out], HD2.out, HEN.out, hJ3, hb3⟩
          case measure => simp [intOf]; omega)
end Go.Proofs.Ythpgfgnifbhjpaa
