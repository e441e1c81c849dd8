/- 'sumplaw18.ImageApart' answers true, whatever it is asked, and what it is asked reads as it did; no condition. -/
import Derived.Test.YtdfjfagljngciaaGreatRow
import Derived.Test.YtdfjfagljngciaaGreatApa
import Derived.SizedLaws
set_option linter.all false
namespace Go.Proofs.YtdfjfagljngciaaGreat
open Go.ChangeShapes Go.WideShapes Go.ChangeAt Go.RowKit Go.Joins Go.Deep

/-- A slice that is an argument takes no more bytes than any memory has. -/
theorem sl_sized {α H : Type} [Inhabited α] {r : Rep α} {P : Program} {enc : TypeId × Value → H} {W : World} {ts : List TypeId} {ds : List (DataW H)} {j : Nat} {t e : TypeId} {v : Value} {d : DataW H} {p : List MemPlace} (hu : P.underlying t = some (.slice e)) (hc : P.cellsOf e = r.n) (ho : Opens enc P W r e) {base : Nat}
    (hval : Value.okWide P W .any base t v) (h : DataW.Trod enc P W 0 (fun _ => true) true t v d p) (hz : (DataW.weightsEach P ts ds).all (· ≤ reachBytes) = true) (ht : ts[j]? = some t) (hd : ds[j]? = some d) : ∃ l, Sl r (fun _ => False) W v l ∧ l.length * P.bytesOf e ≤ reachBytes := by
  obtain ⟨l, hl⟩ := open_sl hu hc ho hval h
  refine ⟨l, hl, ?_⟩
  obtain ⟨fuel, hf⟩ := h
  obtain ⟨a0, c0, rfl, -⟩ := hl
  rcases open_slice hu hf with ⟨hcs, hx⟩ | ⟨a, len', cap', m, k, D, Pl, hcs, hb, hle, hm, hmm, hx, hcell⟩
  · simp only [Value.cells, List.cons.injEq, and_true, Value.slice.injEq] at hcs
    rw [hcs.2.1]; simp
  · simp only [Value.cells, List.cons.injEq, and_true, Value.slice.injEq] at hcs
    simp only [Prod.mk.injEq] at hx
    rw [hx.1] at hd
    have := sized_slice hz ht hd hu
    simp only [List.length_map, List.length_range] at this
    refine Nat.le_trans (Nat.mul_le_mul_right _ ?_) this
    omega
set_option maxRecDepth 100000 in
theorem imageApart_lifted (os : Os) (started : os.Started) (H : Type) (enc : TypeId × Value → H) :
    ReturnsInHanded {} Tryz.checked os 5 .any (Rows.imageApartSpec.pre6 enc Tryz.prog Tryz.f5 Rows.imageApartRow.domain false) (Rows.imageApartSpec.post enc Tryz.prog Tryz.f5 false true false false) := by
  refine returnsInHanded_of_change_sized (C := Tryz.checked) Tryz.own started (by kernel_rfl) Tryz.func5
    (ChangeSpec.witness6 (enc := enc) (C := Tryz.checked) false ⟨#[], #[.slice none 0 0, .slice none 0 0], []⟩ 8 (by kernel_rfl) (by kernel_rfl) (by kernel_rfl) (by kernel_rfl)) ?_
  intro W base args ds gs before hval0 hW hcnd hz _
  have hval : ∀ (j : Nat) t v, Tryz.f5.params[j]? = some t → args[j]? = some v → Value.okWide Tryz.prog W .any base t v := hval0
  have hW' := hW
  obtain ⟨p, q, hA0, hV, rfl, hfz, hnd⟩ := hW
  have hA : DataW.TrodAll enc Tryz.prog W 0 (fun _ => true) true Tryz.f5.params.toList args.toList ds p := hA0
  rw [Tryz.params5] at hA hval hz
  obtain ⟨v0, v1, d0, d1, p0, p1, rfl, rfl, rfl, h0, h1⟩ := trodAll_two hA
  obtain ⟨rfl, rfl⟩ := trodVars_none hV
  obtain ⟨l, hl, hlz⟩ := sl_sized Tryz.underlying22 (by kernel_rfl) opens_Deed16 (hval 0 22 v0 rfl rfl) h0 hz (j := 0) rfl rfl
  obtain ⟨l', hl', hlz'⟩ := sl_sized Tryz.underlying22 (by kernel_rfl) opens_Deed16 (hval 1 22 v1 rfl rfl) h1 hz (j := 1) rfl rfl
  have hb : Tryz.prog.bytesOf 27 = 112 := by kernel_rfl
  rw [hb] at hlz hlz'
  refine (image_apart_law v0 v1 l l' W hl hl' hlz hlz').mono fun e W' ⟨he, hk⟩ => ?_
  subst he
  exact ⟨_, rfl, post_keep Tryz.laidOut (by kernel_rfl) rfl hW' rfl rfl Tryz.underlying4 hk.below⟩

theorem imageApart_holds : Rows.ImageApartSaid :=
  OpenClaim.holds_of_wide 5 Tryz.f5 rfl rfl rfl rfl rfl rfl rfl ⟨rfl, rfl, rfl, rfl, rfl⟩ rfl rfl rfl rfl rfl (by kernel_rfl) Tryz.func5 (by kernel_rfl)
    (of_decide_eq_true (by kernel_rfl)) (by unfold Func.isWrapper; rw [if_neg (by decide +kernel)]; exact ⟨rfl, rfl⟩)
    (fun os started H enc _ => imageApart_lifted os started H enc)
#print axioms imageApart_holds
end Go.Proofs.YtdfjfagljngciaaGreat
