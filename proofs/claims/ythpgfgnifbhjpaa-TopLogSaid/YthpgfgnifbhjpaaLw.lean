/- A drawn region inside a fence: an operation that yields one value in every world that meets a condition may be taken first, as long as each operation that is carried out keeps the condition. -/
import Derived.OrdersIn
namespace Go.Proofs.Ythpgfgnifbhjpaa
open Go

section
variable {F : Fence} {n : Nat} {P : Program} {md : Region.Mode} {ops : Array Oper} {Q : Exit → Act → World → Prop} {S : World → Prop}

/-- To the operation o the two states are the same. -/
structure Alike (P : Program) (ops : Array Oper) (o : Oper) (a b : Act) : Prop where
  run : execOp b.eval o = execOp a.eval o
  want : Region.wanted o (yielded ops b.tmps) = Region.wanted o (yielded ops a.tmps)
  about : ∀ w, o.about P w b.eval = o.about P w a.eval
theorem Alike.trans {o : Oper} {a b c : Act} (h : Alike P ops o a b) (k : Alike P ops o b c) : Alike P ops o a c :=
  ⟨k.run.trans h.run, k.want.trans h.want, fun w => (k.about w).trans (h.about w)⟩
theorem Alike.put {o : Oper} (hs : ∀ cs b, o.op ≠ .select cs b) (a : Act) {d : Option Tmp} (v : Value) (h : ∀ t, d = some t → t ∉ o.looksAt ops) : Alike P ops o a (a.put d v) :=
  ⟨execOp_put o hs a d v h, wanted_put o a d v h, fun w => about_put o w a d v h⟩
theorem Alike.defers {o : Oper} (a : Act) (d : Deferred) : Alike P ops o a { a with defers := d :: a.defers } := ⟨rfl, rfl, fun _ => rfl⟩

/-- What o yields in every world that meets S; it calls nobody. -/
structure Steady (P : Program) (ops : Array Oper) (S : World → Prop) (o : Oper) (v : Value) (a : Act) : Prop where
  want : Region.wanted o (yielded ops a.tmps) = true
  run : ∀ w, S w → (execOp a.eval o).run P w = .ok (.value v) w
  about : ∀ w, o.about P w a.eval = none
theorem Steady.alike {o : Oper} {v : Value} {a b : Act} (h : Steady P ops S o v a) (k : Alike P ops o a b) : Steady P ops S o v b :=
  ⟨k.want.trans h.want, fun w hw => by rw [k.run]; exact h.run w hw, fun w => (k.about w).trans (h.about w)⟩
theorem Steady.step {i : Nat} {o : Oper} {v : Value} {a : Act} {w : World} {K : Act → World → Prop} (hro : F.round = none) (hi : ops[i]? = some o) (h : Steady P ops S o v a) (hS : S w) (hk : K (a.put o.dst v) w) :
    wpOpIn F n P ops Q i K a w := by
  unfold wpOpIn
  simp only [hi, h.want, if_true, Oper.wpIn, hro, Oper.semAt_none, h.run w hS, Oper.uponIn]
  exact ⟨fun f hf => (by rw [h.about w] at hf; cases hf), hk⟩

/-- An operation apart from o, carried out behind o, may be carried out ahead of it. -/
theorem slide {j : Nat} {o p : Oper} {v : Value} {K : Act → World → Prop} {a : Act} {w : World} (hro : F.round = none) (hj : ops[j]? = some p) (hap : o.apart ops p = true)
    (ho : ∀ cs b, o.op ≠ .select cs b) (hp : ∀ cs b, p.op ≠ .select cs b) (hQ : ∀ c a w, Q (.panic c) (a.put o.dst v) w → Q (.panic c) a w)
    (h : wpOpIn F n P ops Q j K (a.put o.dst v) w) : wpOpIn F n P ops Q j (fun a' w' => Alike P ops o a a' ∧ K (a'.put o.dst v) w') a w := by
  obtain ⟨q1, q2, q3⟩ := Oper.apart_spec hap
  have hpa : Alike P ops p a (a.put o.dst v) := Alike.put hp a v q1
  have back : ∀ u w', K ((a.put o.dst v).put p.dst u) w' → Alike P ops o a (a.put p.dst u) ∧ K ((a.put p.dst u).put o.dst v) w' := fun u w' hk =>
    ⟨Alike.put ho a u q3, by rw [← Act.put_comm a v u q2]; exact hk⟩
  unfold wpOpIn at h ⊢
  simp only [hj, hpa.want] at h ⊢
  by_cases hw : Region.wanted p (yielded ops a.tmps) = true
  · simp only [hw, if_true, Oper.wpIn, hro, Oper.semAt_none, hpa.run] at h ⊢
    refine ⟨fun f hf => h.1 f ((hpa.about w).trans hf), ?_⟩
    have h2 := h.2
    clear h
    generalize (execOp a.eval p).run P w = r at h2 ⊢
    rcases r with ⟨x, w'⟩ | ⟨x, w'⟩
    · cases x with
      | value u => exact back u w' h2
      | skip => exact back _ w' h2
      | defer d =>
        refine ⟨(Alike.defers a d).trans (Alike.put ho _ _ q3), ?_⟩
        show K _ w'
        rw [← Act.put_comm _ v undef q2, ← Act.put_defers]
        exact h2
      | enter f args =>
        refine ⟨h2.1, h2.2.mono fun e w'' he => ?_⟩
        cases e with
        | returned u => exact back u w'' he
        | panicked c => exact hQ _ _ _ he
        | outgrown => exact he
      | row row args => exact ⟨h2.1, h2.2.mono fun u w'' he => back u w'' he⟩
      | round l f tmps assign body =>
        refine ⟨h2.1, h2.2.mono fun e w'' he => ?_⟩
        cases e with
        | returned u => exact back u w'' he
        | panicked c => exact hQ _ _ _ he
        | outgrown => exact he
      | _ => exact h2.elim
    · cases x with
      | panic u => exact hQ _ _ _ h2
      | _ => exact h2.elim
  · simp only [hw] at h ⊢
    exact ⟨fun f hf => h.1 f ((hpa.about w).trans hf), back _ w h.2⟩

/-- Whatever order is drawn; and behind each operation S holds. -/
def Held (F : Fence) (n : Nat) (P : Program) (md : Region.Mode) (ops : Array Oper) (Q : Exit → Act → World → Prop) (S : World → Prop) : Nat → Array Bool → Act → World → Prop
  | 0, seen, a, w => Region.ready md ops seen = [] ∧ Q .normal a w
  | fuel + 1, seen, a, w =>
    (Region.ready md ops seen = [] → Q .normal a w) ∧ ∀ i ∈ Region.ready md ops seen, wpOpIn F n P ops Q i (fun a' w' => S w' ∧ Held F n P md ops Q S fuel (seen.setIfInBounds i true) a' w') a w
theorem Held.any : ∀ {fuel : Nat} {seen : Array Bool} {a : Act} {w : World}, Held F n P md ops Q S fuel seen a w → wpAnyIn F n P md ops Q fuel seen a w
  | 0, _, _, _, h => h
  | _ + 1, _, _, _, h => ⟨h.1, fun i hi => wpOpIn_mono (fun _ _ k => k.2.any) (h.2 i hi)⟩

/-- o stands apart from all that may come up ahead of it. -/
def Clear (md : Region.Mode) (ops : Array Oper) (i : Nat) (o : Oper) (seen : Array Bool) : Prop :=
  ∀ j p, ops[j]? = some p → j ≠ i → seen.getD j true = false → (∀ e ∈ p.after, Region.binds md e = true → e.on ≠ i) → o.apart ops p = true

theorem waits_not {i : Nat} {seen : Array Bool} {p : Oper} (hi : i ∈ Region.ready md ops seen) (hp : ∀ e ∈ p.after, Region.binds md e = true → seen.getD e.on false = true) :
    ∀ e ∈ p.after, Region.binds md e = true → e.on ≠ i := fun e he hb hei => by
  have h1 := hp e he hb
  have h0 := (mem_ready.1 hi).1
  rw [hei] at h1
  rw [Array.getD_eq_getD_getElem?] at h0 h1
  cases hx : seen[i]? with
  | none => rw [hx] at h1; cases h1
  | some x =>
    rw [hx] at h0 h1
    have a0 : x = false := h0
    have a1 : x = true := h1
    rw [a0] at a1
    cases a1

theorem Held.first {i : Nat} {o : Oper} {v : Value} (hro : F.round = none) (hi : ops[i]? = some o) (hsel : Region.noSelect ops = true) (hQ : ∀ c a w, Q (.panic c) (a.put o.dst v) w → Q (.panic c) a w) :
    ∀ (fuel : Nat) (seen : Array Bool) (a : Act) (w : World), Clear md ops i o seen → i ∈ Region.ready md ops seen → Steady P ops S o v a → S w →
      Held F n P md ops Q S fuel (seen.setIfInBounds i true) (a.put o.dst v) w → Held F n P md ops Q S (fuel + 1) seen a w := by
  intro fuel
  induction fuel with
  | zero =>
    intro seen a w _ hr hst hS hh
    refine ⟨fun he => (by rw [he] at hr; cases hr), fun j hj => ?_⟩
    by_cases hji : j = i
    · subst hji
      exact hst.step hro hi hS ⟨hS, hh⟩
    · have hm := ready_mono hj hji
      rw [hh.1] at hm
      cases hm
  | succ fuel ih =>
    intro seen a w hcl hr hst hS hh
    refine ⟨fun he => (by rw [he] at hr; cases hr), fun j hj => ?_⟩
    by_cases hji : j = i
    · subst hji
      exact hst.step hro hi hS ⟨hS, hh⟩
    · obtain ⟨hun, p, hp, hall⟩ := mem_ready.1 hj
      have hap := hcl j p hp hji hun (waits_not hr hall)
      have hcl2 : Clear md ops i o (seen.setIfInBounds j true) := fun k q hq hki hku hkw => by
        refine hcl k q hq hki ?_ hkw
        by_cases hjk : j = k
        · subst hjk; exact hun
        · rw [getD_set_ne true hjk] at hku; exact hku
      refine wpOpIn_mono ?_ (slide hro hp hap (fun cs b => Region.noSelect_spec hsel i o cs b hi) (fun cs b => Region.noSelect_spec hsel j p cs b hp) hQ (hh.2 j (ready_mono hj hji)))
      rintro a' w' ⟨hal, hS', hk⟩
      refine ⟨hS', ih _ a' w' hcl2 (ready_mono hr (Ne.symm hji)) (hst.alike hal) hS' ?_⟩
      rw [Array.setIfInBounds_comm _ _ hji]
      exact hk

/-- It is taken first. -/
theorem Held.take (i : Nat) {o : Oper} {v : Value} {fuel : Nat} {seen : Array Bool} {a : Act} {w : World} (hsel : Region.noSelect ops = true) (hro : F.round = none) (hS : S w)
    (hi : ops[i]? = some o) (hQ : ∀ c a w, Q (.panic c) (a.put o.dst v) w → Q (.panic c) a w) (hf : Region.free md ops seen i = true) (hr : (Region.ready md ops seen).contains i = true) (hw : Region.wanted o (yielded ops a.tmps) = true)
    (hv : ∀ w, S w → (execOp a.eval o).run P w = .ok (.value v) w) (hab : ∀ w, o.about P w a.eval = none)
    (h : Held F n P md ops Q S fuel (seen.setIfInBounds i true) (a.put o.dst v) w) : Held F n P md ops Q S (fuel + 1) seen a w :=
  Held.first hro hi hsel hQ fuel seen a w (Region.free_spec hi hf) (by simpa using hr) ⟨hw, hv, hab⟩ hS h
/-- It alone may come up. -/
theorem Held.only (i : Nat) {o : Oper} {fuel : Nat} {seen : Array Bool} {a : Act} {w : World} (hi : ops[i]? = some o) (hr : Region.ready md ops seen = [i]) (hw : Region.wanted o (yielded ops a.tmps) = true)
    (h : ∀ K : Act → World → Prop, (∀ a' w', S w' → Held F n P md ops Q S fuel (seen.setIfInBounds i true) a' w' → K a' w') → o.wpIn F n P a w K Q) : Held F n P md ops Q S (fuel + 1) seen a w := by
  refine ⟨fun he => (by rw [hr] at he; cases he), fun j hj => ?_⟩
  rw [hr, List.mem_singleton] at hj
  subst hj
  unfold wpOpIn
  simp only [hi, hw, if_true]
  exact h _ fun _ _ h1 h2 => ⟨h1, h2⟩
theorem Held.done {fuel : Nat} {seen : Array Bool} {a : Act} {w : World} (hr : Region.ready md ops seen = []) (h : Q .normal a w) : Held F n P md ops Q S fuel seen a w := by
  cases fuel with
  | zero => exact ⟨hr, h⟩
  | succ k => exact ⟨fun _ => h, fun j hj => (by rw [hr] at hj; cases hj)⟩
theorem Held.region {id : Nat} {a : Act} {w : World} (hm : P.follows .mixedOrders = true) (S : World → Prop)
    (h : Held F n P .any ops Q S ops.size (Array.replicate ops.size false) a { w with drawn := w.drawn + 1 }) : (Code.region id ops true).wpIn F n P Q a w :=
  wpIn_region_any hm h.any
end
end Go.Proofs.Ythpgfgnifbhjpaa
