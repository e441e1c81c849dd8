/- 'sumplaw21.PendDoes' answers true, whatever it is asked, and what it is asked reads as it did. -/
import Derived.Test.YthchaodakfnbbaaPdd
import Derived.Test.YthchaodakfnbbaaOpen
import Derived.Test.YthchaodakfnbbaaRow
set_option linter.all false
namespace Go.Proofs.Ythchaodakfnbbaa
open Go.ChangeShapes Go.WideShapes Go.ChangeAt Go.RowKit Go.Joins Go.Deep

set_option maxRecDepth 100000 in
theorem pendDoes_lifted (os : Os) (started : os.Started) (H : Type) (enc : TypeId × Value → H) :
    ReturnsInHanded {} Try.checked os 6 .any (Rows.pendDoesSpec.pre6 enc Try.prog Try.f6 Rows.pendDoesRow.domain false) (Rows.pendDoesSpec.post enc Try.prog Try.f6 false true false false) := by
  refine returnsInHanded_of_change (C := Try.checked) Try.own started (by kernel_rfl) Try.func6
    (ChangeSpec.witness6 (enc := enc) (C := Try.checked) false ⟨#[], #[.slice none 0 0, .slice none 0 0, .int .i64 0], []⟩ 8 (by kernel_rfl) (by kernel_rfl) (by kernel_rfl) (by kernel_rfl)) ?_
  intro W base args ds gs before hval0 hW hcnd _
  have hval : ∀ (j : Nat) t v, Try.f6.params[j]? = some t → args[j]? = some v → Value.okWide Try.prog W .any base t v := hval0
  have hW' := hW
  obtain ⟨p, q, hA0, hV, rfl, hfz, hnd⟩ := hW
  have hA : DataW.TrodAll enc Try.prog W 0 (fun _ => true) true Try.f6.params.toList args.toList ds p := hA0
  rw [Try.params6] at hA hval
  obtain ⟨v0, v1, v2, d0, d1, d2, p0, p1, p2, rfl, rfl, rfl, h0, h1, h2⟩ := trodAll_three hA
  obtain ⟨rfl, rfl⟩ := trodVars_none hV
  obtain ⟨a, l, cap, rfl, -, hm, hl⟩ := open_recs RE Try.underlying44 9 (by kernel_rfl) (by omega) (fun _ _ _ h => open_eff h) (hval 0 44 v0 rfl rfl) h0
  obtain ⟨a', l', cap', rfl, -, hm', hl'⟩ := open_recs RY Try.underlying45 1 (by kernel_rfl) (by omega) (fun _ _ _ h => open_yes Try.underlying4 h) (hval 1 45 v1 rfl rfl) h1
  obtain ⟨n, rfl, rfl, rfl, -⟩ := open_int Try.underlying3 (hval 2 3 v2 rfl rfl) h2
  refine (pend_does_law a a' l l' cap cap' n W hl hl' hm hm').mono fun e W' ⟨he, hk⟩ => ?_
  subst he
  exact ⟨_, rfl, post_keep Try.laidOut (by kernel_rfl) rfl hW' rfl rfl Try.underlying4 hk.below⟩

theorem pendDoes_holds : Rows.PendDoesSaid :=
  OpenClaim.holds_of_wide 6 Try.f6 rfl rfl rfl rfl rfl rfl rfl ⟨rfl, rfl, rfl, rfl, rfl⟩ rfl rfl rfl rfl rfl (by kernel_rfl) Try.func6 (by kernel_rfl)
    (of_decide_eq_true (by kernel_rfl)) (by unfold Func.isWrapper; rw [if_neg (by decide +kernel)]; exact ⟨rfl, rfl⟩)
    (fun os started H enc _ => pendDoes_lifted os started H enc)
#print axioms pendDoes_holds
end Go.Proofs.Ythchaodakfnbbaa
