/- What both sides find, and what they know behind an exchange, is the document's; at every input. -/
import Derived.Test.YthfgnaplfglggaaRows
import Derived.WalkKit
import Derived.ProofKit
import Derived.OpenShut
import Derived.Lib.SmallJoins
import Derived.Test.YthfgnaplfglggaaBase
import Derived.Test.YthfgnaplfglggaaWk6
namespace Go.Proofs.Ythfgnaplfglggaa.rowNamesBoth
open Go.ChangeShapes Go.WideShapes Go.ChangeAt Go.RowKit Go.Joins
set_option linter.unusedVariables false

theorem own : ownKnob Try.prog.godebug = none := by kernel_rfl
theorem cellsSide : Try.prog.cellsOf 34 = 3 := by kernel_rfl
set_option maxRecDepth 100000 in
set_option maxHeartbeats 800000 in
theorem lifted (os : Os) (started : os.Started) (H : Type) (enc : TypeId × Value → H) :
    ReturnsInHanded {} Try.checked os 5 .any (Rows.namesBothSpec.pre6 enc Try.prog Try.f5 Rows.namesBothRow.domain false) (Rows.namesBothSpec.post enc Try.prog Try.f5 false true false false) := by
  refine returnsInHanded_of_change (C := Try.checked) own started (by kernel_rfl) Try.func5
    (ChangeSpec.witness6 (enc := enc) (C := Try.checked) false ⟨#[], #[.agg #[.int .u32 0, .int .u32 0, .bool false], .agg #[.int .u32 0, .int .u32 0, .bool false]], []⟩ 8 (by kernel_rfl) (by kernel_rfl) (by kernel_rfl) (by kernel_rfl)) ?_
  intro W base args ds gs before hval0 hW hcnd _
  have hval : ∀ (j : Nat) t v, Try.f5.params[j]? = some t → args[j]? = some v → Value.okWide Try.prog W .any base t v := hval0
  have hW' := hW
  obtain ⟨p, q, hA0, hV, rfl, hfz, hnd⟩ := hW
  have hA : DataW.TrodAll enc Try.prog W 0 (fun _ => true) true Try.f5.params.toList args.toList ds p := hA0
  rw [Try.params5] at hA hval
  obtain ⟨v0, vs0, d0, ds0, p0, q0, hargs, rfl, rfl, h0, r0⟩ := trodAll_cons hA
  obtain ⟨v1, vs1, d1, ds1, p1, q1, rfl, rfl, rfl, h1, r1⟩ := trodAll_cons r0
  obtain ⟨rfl, rfl, rfl⟩ := trodAll_nil r1
  obtain rfl : args = #[v0, v1] := by cases args; simp_all
  obtain ⟨rfl, rfl⟩ := trodVars_none hV
  obtain ⟨c00, c01, c02, y00, y01, y02, n0, rfl, rfl, rfl, z00, z01, z02⟩ := open_agg3 Try.underlying34 (by kernel_rfl) cellsSide (hval 0 34 v0 rfl rfl) h0
  obtain ⟨a0m, e00, rfl, w0m⟩ := DataW.trod_int Try.underlying22 z00
  obtain ⟨a0s, e01, rfl, w0s⟩ := DataW.trod_int Try.underlying22 z01
  obtain ⟨a0k, e02, rfl⟩ := DataW.trod_bool Try.underlying4 z02
  simp only [List.cons.injEq, and_true] at e00 e01 e02
  subst e00 e01 e02
  obtain ⟨c10, c11, c12, y10, y11, y12, n1, rfl, rfl, rfl, z10, z11, z12⟩ := open_agg3 Try.underlying34 (by kernel_rfl) cellsSide (hval 1 34 v1 rfl rfl) h1
  obtain ⟨a1m, e10, rfl, w1m⟩ := DataW.trod_int Try.underlying22 z10
  obtain ⟨a1s, e11, rfl, w1s⟩ := DataW.trod_int Try.underlying22 z11
  obtain ⟨a1k, e12, rfl⟩ := DataW.trod_bool Try.underlying4 z12
  simp only [List.cons.injEq, and_true] at e10 e11 e12
  subst e10 e11 e12
  clear hA0 hval0
  simp only [List.append_nil] at hW'
  refine (walk_NamesBoth a0m a0s a0k a1m a1s a1k W).mono fun e W' ⟨he, hg⟩ => ?_
  subst he
  exact ⟨_, rfl, post_of_below (pa := []) (pv := []) hW' (fun _ _ _ => (trodAll_cons_mk (shut_bool Try.underlying4 _) trodAll_mk0)) (fun sp _ => (trodAll_cons_mk ((shut_agg3 (y0 := (.lit (.int .u32 a0m), [])) (y1 := (.lit (.int .u32 a0s), [])) (y2 := (.lit (.bool a0k), [])) Try.underlying34 (by kernel_rfl) cellsSide ⟨1, by simp [DataW.trod, Try.underlying22, w0m]⟩ ⟨1, by simp [DataW.trod, Try.underlying22, w0s]⟩ ⟨1, by simp [DataW.trod, Try.underlying4]⟩)) (trodAll_cons_mk ((shut_agg3 (y0 := (.lit (.int .u32 a1m), [])) (y1 := (.lit (.int .u32 a1s), [])) (y2 := (.lit (.bool a1k), [])) Try.underlying34 (by kernel_rfl) cellsSide ⟨1, by simp [DataW.trod, Try.underlying22, w1m]⟩ ⟨1, by simp [DataW.trod, Try.underlying22, w1s]⟩ ⟨1, by simp [DataW.trod, Try.underlying4]⟩)) trodAll_mk0))) (fun _ _ => rfl) rfl
    hg (ok_one (by kernel_rfl) rfl (okWide_bool_mk Try.underlying4 _))⟩

theorem over : Rows.namesBothRow.holds Try.pinned (OpenSpec.ofChange Rows.namesBothSpec) :=
  OpenClaim.holds_of_wide 5 Try.f5 rfl rfl rfl rfl rfl rfl rfl ⟨rfl, rfl, rfl, rfl, rfl⟩ rfl rfl rfl rfl rfl (by kernel_rfl) Try.func5 (by kernel_rfl)
    (of_decide_eq_true (by kernel_rfl)) (by unfold Func.isWrapper; first | (rw [if_pos (by decide +kernel)]; kernel_rfl) | (rw [if_neg (by decide +kernel)]; exact ⟨rfl, rfl⟩))
    (fun os started H enc _ => lifted os started H enc)

theorem proved : Rows.NamesBothSaid :=
  over
#print axioms proved
end Go.Proofs.Ythfgnaplfglggaa.rowNamesBoth
