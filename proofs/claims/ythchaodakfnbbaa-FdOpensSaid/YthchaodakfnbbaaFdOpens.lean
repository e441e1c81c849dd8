/- 'sumplaw24.FdOpens' answers true, whatever it is asked, and what it is asked reads as it did. -/
import Derived.Test.YthchaodakfnbbaaFdo
import Derived.Deep.Strs
set_option linter.all false
namespace Go.Proofs.Ythchaodakfnbbaa
open Go.ChangeShapes Go.WideShapes Go.ChangeAt Go.RowKit Go.Joins Go.Proofs.Ythchaodakfnbbaa.Fd Go.Deep

/-- A record of three numbers, read. -/
theorem open_opn {H : Type} {enc : TypeId × Value → H} {W : World} {fuel : Nat} {cs : List Value} {x : DataW H × List MemPlace} (h : DataW.trod enc Try.prog W 0 (fun _ => true) true fuel 23 cs = some x) : ∃ o : Opn, cs = Fd.enc o := by
  obtain ⟨y0, y1, y2, n, hx, hl, h0, h1, h2⟩ := trod_struct3 Try.underlying23 h
  have c3 : Try.prog.cellsOf 3 = 1 := by kernel_rfl
  have c23 : Try.prog.cellsOf 23 = 3 := by kernel_rfl
  rw [c23] at hl
  simp only [c3] at h0 h1 h2
  obtain ⟨a, e0, -, -⟩ := DataW.trod_int Try.underlying3 h0
  obtain ⟨b, e1, -, -⟩ := DataW.trod_int Try.underlying3 h1
  obtain ⟨c, e2, -, -⟩ := DataW.trod_int Try.underlying3 h2
  refine ⟨⟨a, b, c⟩, ?_⟩
  match cs, hl with
  | [x, y, z], _ =>
    simp at e0 e1 e2
    subst e0 e1 e2
    rfl

set_option maxRecDepth 100000 in
theorem fdOpens_lifted (os : Os) (started : os.Started) (H : Type) (enc : TypeId × Value → H) :
    ReturnsInHanded {} Try.checked os 5 .any (Rows.fdOpensSpec.pre6 enc Try.prog Try.f5 Rows.fdOpensRow.domain false) (Rows.fdOpensSpec.post enc Try.prog Try.f5 false true false false) := by
  refine returnsInHanded_of_change (C := Try.checked) Try.own started (by kernel_rfl) Try.func5
    (ChangeSpec.witness6 (enc := enc) (C := Try.checked) false ⟨#[], #[.slice none 0 0, .agg #[.int .i64 0, .int .i64 0, .int .i64 0], .int .i64 0], []⟩ 8 (by kernel_rfl) (by kernel_rfl) (by kernel_rfl) (by kernel_rfl)) ?_
  intro W base args ds gs before hval0 hW hcnd _
  have hval : ∀ (j : Nat) t v, Try.f5.params[j]? = some t → args[j]? = some v → Value.okWide Try.prog W .any base t v := hval0
  have hW' := hW
  obtain ⟨p, q, hA0, hV, rfl, hfz, hnd⟩ := hW
  have hA : DataW.TrodAll enc Try.prog W 0 (fun _ => true) true Try.f5.params.toList args.toList ds p := hA0
  rw [Try.params5] at hA hval
  obtain ⟨v0, v1, v2, d0, d1, d2, p0, p1, p2, rfl, rfl, rfl, h0, h1, h2⟩ := trodAll_three hA
  obtain ⟨rfl, rfl⟩ := trodVars_none hV
  obtain ⟨a, l, cap, rfl, -, hm, hl⟩ := open_recs Fd.RO Try.underlying39 3 (by kernel_rfl) (by omega) (fun _ _ _ h => open_opn h) (hval 0 39 v0 rfl rfl) h0
  obtain ⟨n, rfl, rfl, rfl, -⟩ := open_int Try.underlying3 (hval 2 3 v2 rfl rfl) h2
  obtain ⟨cs, rfl, hsz⟩ := okWide_struct Try.underlying23 (hval 1 23 v1 rfl rfl)
  obtain ⟨o, ho⟩ : ∃ o : Opn, cs.toList = Fd.enc o := by
    obtain ⟨fuel, hf⟩ := h1
    exact open_opn hf
  obtain rfl : cs = (Fd.enc o).toArray := by rw [← ho]
  refine (fd_opens_law a l cap o n W hl hm).mono fun e W' ⟨he, hk⟩ => ?_
  subst he
  exact ⟨_, rfl, post_keep Try.laidOut (by kernel_rfl) rfl hW' rfl rfl Try.underlying4 hk.below⟩

theorem fdOpens_holds : Rows.FdOpensSaid :=
  OpenClaim.holds_of_wide 5 Try.f5 rfl rfl rfl rfl rfl rfl rfl ⟨rfl, rfl, rfl, rfl, rfl⟩ rfl rfl rfl rfl rfl (by kernel_rfl) Try.func5 (by kernel_rfl)
    (of_decide_eq_true (by kernel_rfl)) (by unfold Func.isWrapper; rw [if_neg (by decide +kernel)]; exact ⟨rfl, rfl⟩)
    (fun os started H enc _ => fdOpens_lifted os started H enc)
#print axioms fdOpens_holds
end Go.Proofs.Ythchaodakfnbbaa
