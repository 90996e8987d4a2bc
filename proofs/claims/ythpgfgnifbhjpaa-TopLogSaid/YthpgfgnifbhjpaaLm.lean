/- oct.Split. -/
import Derived.Test.YthpgfgnifbhjpaaLl
import Derived.Scope
namespace Go.Proofs.Ythpgfgnifbhjpaa
open Go.RowKit Go.Shelf

attribute [local go_sem] Oper.semAt_some
set_option linter.unusedVariables false

theorem info_part : (Try.prog.info? 34).map (fun i => (i.zero, i.size, i.bytes)) = some (some (.slice none 0 0), 1, 24) := by kernel_rfl

/-- A block of two cells. -/
def Two (W : World) (B : Nat) (t : TypeId) (u v : Value) : Prop := W.heap[B]? = some (.cells #[u, v] t (0, 0))
theorem Two.lt {W : World} {B : Nat} {t : TypeId} {u v : Value} (h : Two W B t u v) : B < W.heap.size := (Array.getElem?_eq_some_iff.1 h).1
theorem Two.cell0 {W : World} {B : Nat} {t : TypeId} {u v : Value} (h : Two W B t u v) : W.cell? ⟨B, 0, none⟩ = some u := by simp [World.cell?, show W.heap[B]? = _ from h]
theorem Two.cell1 {W : World} {B : Nat} {t : TypeId} {u v : Value} (h : Two W B t u v) : W.cell? ⟨B, 1, none⟩ = some v := by simp [World.cell?, show W.heap[B]? = _ from h]
theorem Two.frozen {W : World} {B : Nat} {t : TypeId} {u v : Value} (h : Two W B t u v) (i : Nat) : W.frozen? ⟨B, i, none⟩ = false := by simp [World.frozen?, show W.heap[B]? = _ from h]
theorem Two.new (W : World) (t : TypeId) (u v : Value) : Two (W.alloc (.cells #[u, v] t)) W.heap.size t u v := World.alloc_heap_new W _
theorem Two.kept {W W' : World} {row : Option Nat} {B : Nat} {t : TypeId} {u v : Value} (h : Two W B t u v) (hg : W.grownBy W' row) (hne : some B ≠ row) : Two W' B t u v := (hg.block B h.lt hne).trans h
theorem Two.alloc {W : World} {B : Nat} {t : TypeId} {u v : Value} (h : Two W B t u v) (o : Obj) : Two (W.alloc o) B t u v := h.kept (World.grownBy_alloc W o none) (by simp)
theorem Two.turn {W W' : World} {B b : Nat} {t : TypeId} {u v : Value} (h : Two W b t u v) (ht : Turn B W W') : Two W' b t u v := by
  obtain ⟨row, hg, hr⟩ := ht
  refine h.kept hg fun e => ?_
  obtain ⟨-, o, ho, hcc⟩ := hr b e.symm
  rw [show W.heap[b]? = _ from h] at ho
  cases ho
  cases hcc
theorem Two.not_row {W : World} {B : Nat} {t e : TypeId} {u v : Value} (h : Two W B t u v) (hte : t ≠ e) {base size k : Nat} {s : Value} {xs : List Value} (hr : W.ownsRow base e size s k xs) : some B ≠ s.ownBlock := by
  intro e'
  obtain ⟨cur, hc⟩ := own_isT hr e'.symm
  rw [show W.heap[B]? = _ from h] at hc
  injection hc with hc
  injection hc with _ hc _
  exact hte hc

/-- 'out = append(out, x)' where out lies in a box, its row beyond 'base'. -/
theorem boxed_appended {W w1 : World} {n₀ base B : Nat} {t e : TypeId} {size : Nat} {v v' : Value} {k m : Nat} {xs ys : List Value} {tmp : Obj}
    (hv : Boxed W B t v) (hte : t ≠ e) (hrow : W.ownsRow base e size v k xs) (hn₀ : n₀ ≤ W.heap.size) (hnb : n₀ ≤ base) (hB : n₀ ≤ B)
    (hown' : w1.ownsRow base e size v' m ys) (hgrow : (W.alloc tmp).grownBy w1 v.ownBlock) :
    Boxed w1 B t v ∧ Boxed (w1.setCell ⟨B, 0, none⟩ v') B t v' ∧ (w1.setCell ⟨B, 0, none⟩ v').ownsRow base e size v' m ys ∧ KeepsOthers W (w1.setCell ⟨B, 0, none⟩ v') ∧ Below n₀ W (w1.setCell ⟨B, 0, none⟩ v') := by
  have hv1 : Boxed w1 B t v := (hv.alloc tmp).kept hgrow (hv.not_row hte hrow)
  refine ⟨hv1, hv1.set v', hown'.kept (grownBy_setCell' w1 B v') (.inr (hv1.not_row hte hown').symm), ?_, ?_⟩
  · refine ((KeepsOthers.alloc W tmp).trans (KeepsOthers.of_grownBy hgrow fun j o ej hj => ?_)).trans (KeepsOthers.setCell _ _ _)
    rcases (hrow.alloc tmp).2 with ⟨rfl, _⟩ | ⟨g, cap, cur, rfl, _, hgb, _⟩
    · simp [Value.ownBlock] at ej
    · obtain rfl : g = j := by simpa [Value.ownBlock] using ej
      rw [hgb] at hj; cases hj; rfl
  · refine (((Below.refl n₀ W).alloc hn₀ tmp).grown hgrow (by simp; omega) fun j ej => ?_).setCell (p := ⟨B, 0, none⟩) hB v'
    rcases hrow.2 with ⟨rfl, _⟩ | ⟨g, cap, cur, rfl, hb, _, _⟩
    · simp [Value.ownBlock] at ej
    · obtain rfl : g = j := by simpa [Value.ownBlock] using ej
      exact Nat.le_trans hnb hb
theorem own_slice {W : World} {base e size k : Nat} {v : Value} {xs : List Value} (h : W.ownsRow base e size v k xs) : ∃ A c, v = .slice A k c := by
  rcases h.2 with ⟨rfl, h0⟩ | ⟨g, cap, cur, rfl, _⟩
  · exact ⟨none, 0, by rw [h0]⟩
  · exact ⟨_, _, rfl⟩
theorem own_beyond {W : World} {base : Nat} {e : TypeId} {size : Nat} {v : Value} {k B : Nat} {xs : List Value} (h : W.ownsRow base e size v k xs) (hB : B < base) : some B ≠ v.ownBlock := fun e' => by
  have := (h.lt B e'.symm).1
  omega

def partVals (xs : List PIt) : List Value := xs.map fun x => .slice (some ⟨x.G, 0, none⟩) x.part.length x.c
theorem sites_get : ∀ (rs : List (List Int)) (p : Int) (xs : List PIt), xs.map PIt.g = sites p rs → ∀ (i : Nat) (r : List Int), rs[i]? = some r → ∃ x, xs[i]? = some x ∧ x.part = r
  | [], p, xs, h, i, r, hr => by simp at hr
  | q :: rs, p, [], h, i, r, hr => by simp [sites] at h
  | q :: rs, p, x :: xs, h, i, r, hr => by
    simp only [List.map_cons, sites, List.cons.injEq] at h
    obtain ⟨h1, h2⟩ := h
    cases i with
    | zero =>
      simp only [List.getElem?_cons_zero, Option.some.injEq] at hr
      subst hr
      simp only [PIt.g, Prod.mk.injEq] at h1
      exact ⟨x, rfl, h1.2⟩
    | succ i =>
      obtain ⟨y, hy, e⟩ := sites_get rs _ xs h2 i r (by simpa using hr)
      exact ⟨y, by simpa using hy, e⟩
theorem parts_of_row {W : World} {n₀ m₀ : Nat} {sv : Value} {xs : List PIt} {rs : List (List Int)} {p : Int} (hrow : W.ownsRow m₀ 34 1 sv xs.length (partVals xs)) (hV : ∀ x ∈ xs, PIt.V n₀ x W) (hg : xs.map PIt.g = sites p rs) :
    ∃ A c, sv = .slice A rs.length c ∧ rs.length ≤ c ∧ c ≤ maxLen ∧ PartsP W (fun _ => True) A rs := by
  have hl : xs.length = rs.length := by
    have := congrArg List.length hg
    rw [List.length_map, sites_length] at this
    exact this
  rcases hrow.2 with ⟨rfl, h0⟩ | ⟨g, cap, cur, rfl, hge, hgg, hnc, hcap, _, _⟩
  · exact ⟨none, 0, by rw [← hl, h0], by omega, by unfold maxLen; omega, fun hp => absurd hp (by omega)⟩
  · refine ⟨_, cap, by rw [hl], by omega, hcap, fun hp => ⟨g, 0, rfl, trivial, fun i r hr => ?_⟩⟩
    obtain ⟨x, hx, e1⟩ := sites_get rs p xs hg i r hr
    have hi : i < xs.length := (List.getElem?_eq_some_iff.1 hx).1
    have c0 := hrow.cellAt i (by omega)
    have hv := hV x (List.mem_of_getElem? hx)
    obtain ⟨A', c', e, hlc, hm, hB⟩ := bytes_of_own (P := fun _ => True) hv (fun _ _ => trivial)
    simp only [Value.slice.injEq] at e
    obtain ⟨ea, -, ec⟩ := e
    subst ec
    rw [← e1]
    exact ⟨A', x.c, by rw [Nat.zero_add, c0, partVals, List.getElem?_map, hx, ← ea]; rfl, hlc, hm, hB⟩

theorem wpIn_scope_wide {n : Nat} {P : Program} {c : Code} {Q : Exit → Act → World → Prop} {a : Act} {w : World} (h : c.wpIn Fence.wide n P (Exit.noGoto Q) a w) : (Code.scope c).wpIn Fence.wide n P Q a w :=
  wpIn_wide.2 (wp_scope_straight (wpIn_wide.1 h))

set_option maxHeartbeats 1000000 in
theorem octwalk_in (n : Nat) (A : Option Addr) (l c : Nat) (w : World) :
    CallsIn Fence.wide n Try.prog 26 #[.slice A l c] w fun e w' => e = .returned (.func (.func 31) #[] #[.pointer (some ⟨w.heap.size, 0, none⟩)]) ∧ w.alloc (.cells #[.slice A l c] 34) = w' := by
  refine callsIn_of_wp Try.func26 rfl trivial ?_ rfl
  simp only [Try.ntmps26, List.size_toArray, List.length_cons, List.length_nil, Nat.reduceAdd, Nat.reduceSub, Array.replicate_succ, Array.replicate_zero, List.push_toArray, List.append_toArray, List.nil_append, List.cons_append]
  gi_wp2
  go_ret
  exact ⟨rfl, rfl⟩

theorem octwalk_seq (n n₀ Bb : Nat) (A : Option Addr) (c : Nat) (b : List Int) (ps : List (List Int)) (w : World)
    (hb : b = joinF ps) (hps : ∀ p ∈ ps, p.length ≤ 60 ∧ Bytes p) (hlen : b.length ≤ 100000) (hlc : b.length ≤ c) (hcm : c ≤ maxLen) (hBb : Bb < w.heap.size) (hc : w.cell? ⟨Bb, 0, none⟩ = some (.slice A b.length c))
    (hA : BytesP w (· < n₀) A b) (hn₀ : n₀ ≤ w.heap.size) :
    SeqV Fence.wide n Try.prog 31 #[.pointer (some ⟨Bb, 0, none⟩)] PIt.enc (PIt.V n₀) (KB n₀ Bb) (fun xs => xs.map PIt.g = sites 0 ps) ps.length w := fun l J W hW hJ hY h0 =>
  oct_walk1 n l n₀ Bb A c b ps W J hb hps hlen hlc hcm (Nat.lt_of_lt_of_le hBb hW.size) ((hW.cell (p := ⟨Bb, 0, none⟩) hBb).trans hc) (hA.keep fun b' hb' hlt => ⟨hb', hW.block b' hlt⟩) (Nat.le_trans hn₀ hW.size) hJ hY h0
end Go.Proofs.Ythpgfgnifbhjpaa
