/- 'sumplaw24.FdDoes' answers true, whatever it is asked, and what it is asked reads as it did. -/
import Derived.Test.YthchaodakfnbbaaFdd
import Derived.Deep.Strs
set_option linter.all false
namespace Go.Proofs.Ythchaodakfnbbaa
open Go.ChangeShapes Go.WideShapes Go.ChangeAt Go.RowKit Go.Joins Go.Proofs.Ythchaodakfnbbaa.Fd Go.Deep

/-- A record of three numbers, read. -/
theorem open_opn {H : Type} {enc : TypeId × Value → H} {W : World} {fuel : Nat} {cs : List Value} {x : DataW H × List MemPlace} (h : DataW.trod enc Try.prog W 0 (fun _ => true) true fuel 23 cs = some x) : ∃ o : Opn, cs = Fd.enc o := by
  obtain ⟨y0, y1, y2, n, hx, hl, h0, h1, h2⟩ := trod_struct3 Try.underlying23 h
  have c3 : Try.prog.cellsOf 3 = 1 := by kernel_rfl
  have c23 : Try.prog.cellsOf 23 = 3 := by kernel_rfl
  rw [c23] at hl
  simp only [c3] at h0 h1 h2
  obtain ⟨a, e0, -, -⟩ := DataW.trod_int Try.underlying3 h0
  obtain ⟨b, e1, -, -⟩ := DataW.trod_int Try.underlying3 h1
  obtain ⟨c, e2, -, -⟩ := DataW.trod_int Try.underlying3 h2
  refine ⟨⟨a, b, c⟩, ?_⟩
  match cs, hl with
  | [x, y, z], _ =>
    simp at e0 e1 e2
    subst e0 e1 e2
    rfl

/-- A deed, read. -/
theorem open_deed {H : Type} {enc : TypeId × Value → H} {W : World} {fuel : Nat} {cs : List Value} {x : DataW H × List MemPlace} (h : DataW.trod enc Try.prog W 0 (fun _ => true) true fuel 36 cs = some x) : ∃ d : Fd.Dd, cs = Fd.encD d := by
  obtain ⟨y0, y1, y2, n, hx, hl, h0, h1, h2⟩ := trod_struct3 Try.underlying36 h
  have c3 : Try.prog.cellsOf 3 = 1 := by kernel_rfl
  have c23 : Try.prog.cellsOf 23 = 3 := by kernel_rfl
  have c24 : Try.prog.cellsOf 36 = 5 := by kernel_rfl
  rw [c24] at hl
  simp only [c3, c23] at h0 h1 h2
  obtain ⟨a, e0, -, -⟩ := DataW.trod_int Try.underlying3 h0
  obtain ⟨b, e1, -, -⟩ := DataW.trod_int Try.underlying3 h1
  obtain ⟨o, e2⟩ := open_opn h2
  refine ⟨⟨a, b, o⟩, ?_⟩
  match cs, hl with
  | [x, y, z, u, v], _ =>
    simp [Fd.enc] at e0 e1 e2
    obtain ⟨e2, e3, e4⟩ := e2
    subst e0 e1 e2 e3 e4
    rfl

set_option maxRecDepth 100000 in
theorem fdDoes_lifted (os : Os) (started : os.Started) (H : Type) (enc : TypeId × Value → H) :
    ReturnsInHanded {} Try.checked os 4 .any (Rows.fdDoesSpec.pre6 enc Try.prog Try.f4 Rows.fdDoesRow.domain false) (Rows.fdDoesSpec.post enc Try.prog Try.f4 false true false false) := by
  refine returnsInHanded_of_change (C := Try.checked) Try.own started (by kernel_rfl) Try.func4
    (ChangeSpec.witness6 (enc := enc) (C := Try.checked) false ⟨#[], #[.slice none 0 0, .int .i64 0], []⟩ 8 (by kernel_rfl) (by kernel_rfl) (by kernel_rfl) (by kernel_rfl)) ?_
  intro W base args ds gs before hval0 hW hcnd _
  have hval : ∀ (j : Nat) t v, Try.f4.params[j]? = some t → args[j]? = some v → Value.okWide Try.prog W .any base t v := hval0
  have hW' := hW
  obtain ⟨p, q, hA0, hV, rfl, hfz, hnd⟩ := hW
  have hA : DataW.TrodAll enc Try.prog W 0 (fun _ => true) true Try.f4.params.toList args.toList ds p := hA0
  rw [Try.params4] at hA hval
  obtain ⟨v0, v1, d0, d1, p0, p1, rfl, rfl, rfl, h0, h1⟩ := trodAll_two hA
  obtain ⟨rfl, rfl⟩ := trodVars_none hV
  obtain ⟨a, l, cap, rfl, -, hm, hl⟩ := open_recs Fd.RD Try.underlying33 5 (by kernel_rfl) (by omega) (fun _ _ _ h => open_deed h) (hval 0 33 v0 rfl rfl) h0
  obtain ⟨n, rfl, rfl, rfl, -⟩ := open_int Try.underlying3 (hval 1 3 v1 rfl rfl) h1
  refine (fd_does_law a l cap n W hl hm).mono fun e W' ⟨he, hk⟩ => ?_
  subst he
  exact ⟨_, rfl, post_keep Try.laidOut (by kernel_rfl) rfl hW' rfl rfl Try.underlying4 hk.below⟩

theorem fdDoes_holds : Rows.FdDoesSaid :=
  OpenClaim.holds_of_wide 4 Try.f4 rfl rfl rfl rfl rfl rfl rfl ⟨rfl, rfl, rfl, rfl, rfl⟩ rfl rfl rfl rfl rfl (by kernel_rfl) Try.func4 (by kernel_rfl)
    (of_decide_eq_true (by kernel_rfl)) (by unfold Func.isWrapper; rw [if_neg (by decide +kernel)]; exact ⟨rfl, rfl⟩)
    (fun os started H enc _ => fdDoes_lifted os started H enc)
#print axioms fdDoes_holds
end Go.Proofs.Ythchaodakfnbbaa
