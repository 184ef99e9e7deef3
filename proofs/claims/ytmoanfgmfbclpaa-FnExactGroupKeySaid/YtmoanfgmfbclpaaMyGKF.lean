/- For all nodes and every group, the program's GroupKey returns what the reference's returns, and leaves its arguments as they were. No condition. -/
import Derived.Test.YtmoanfgmfbclpaaMyGK
import Derived.Test.YtmoanfgmfbclpaaMyOpen
import Derived.Test.YtmoanfgmfbclpaaRows
set_option linter.unusedVariables false
namespace Go.Proofs.Ytmoanfgmfbclpaa
open Go.ChangeShapes Go.WideShapes Go.ChangeAt Go.RowKit Go.Eng Go.My

theorem own : ownKnob Try.prog.godebug = none := by kernel_rfl
set_option maxRecDepth 100000 in
theorem lifted (os : Os) (started : os.Started) (H : Type) (enc : TypeId × Value → H) :
    ReturnsInHanded {} Try.checked os 3 .any (Rows.fnExactGroupKeySpec.pre6 enc Try.prog Try.f3 Rows.fnExactGroupKeyRow.domain false) (Rows.fnExactGroupKeySpec.post enc Try.prog Try.f3 false true false false) := by
  refine returnsInHanded_of_change (C := Try.checked) own started (by kernel_rfl) Try.func3
    (ChangeSpec.witness6 (enc := enc) (C := Try.checked) false ⟨#[], #[.slice none 0 0, .agg #[.slice none 0 0, .int .i64 0]], []⟩ 8 (by kernel_rfl) (by kernel_rfl) (by kernel_rfl) (by kernel_rfl)) ?_
  intro W base args ds gs before hval0 hW hcnd _
  have hval : ∀ (j : Nat) t v, Try.f3.params[j]? = some t → args[j]? = some v → Value.okWide Try.prog W .any base t v := hval0
  have hW' := hW
  obtain ⟨p, q, hA0, hV, rfl, hfz, hnd⟩ := hW
  have hA : DataW.TrodAll enc Try.prog W 0 (fun _ => true) true [22, 25] args.toList ds p := hA0
  obtain ⟨v0, v1, d0, d1, p0, p1, rfl, rfl, rfl, h0, h1⟩ := trodAll_two hA
  have hv0 := hval 0 22 v0 rfl rfl
  have hv1 := hval 1 25 v1 rfl rfl
  refine law_calls lawGK_ok (by kernel_rfl) (by kernel_rfl) rfl rfl rfl rfl hW' ?_
  obtain ⟨l, g0, r0⟩ := open_sl1 (e := 38) rfl opens_nodes hv0 h0
  obtain ⟨g, g1, r1⟩ := open_st1 (fs := _) rfl opens_group hv1 h1
  exact ⟨(l, g), ⟨g0, g1⟩, rel0L_cons r0 (rel0L_cons r1 rel0L_nil)⟩

theorem groupKey_holds : Rows.FnExactGroupKeySaid :=
  OpenClaim.holds_of_wide 3 Try.f3 rfl rfl rfl rfl rfl rfl rfl ⟨rfl, rfl, rfl, rfl, rfl⟩ rfl rfl rfl rfl rfl (by kernel_rfl) Try.func3 (by kernel_rfl)
    (of_decide_eq_true (by kernel_rfl)) (by unfold Func.isWrapper; first | (rw [if_pos (by decide +kernel)]; kernel_rfl) | (rw [if_neg (by decide +kernel)]; exact ⟨rfl, rfl⟩))
    (fun os started H enc _ => lifted os started H enc)
end Go.Proofs.Ytmoanfgmfbclpaa
#print axioms Go.Proofs.Ytmoanfgmfbclpaa.groupKey_holds
