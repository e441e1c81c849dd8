/- 'sumplaw16.StateBack' answers true, whatever it is asked, and what it is asked reads as it did; the listed tables of the library tied tu the program's text. -/
import Derived.Test.YtdfjfagljngciaaGreatDoorSbl
import Derived.Test.YtdfjfagljngciaaGreatDoorRowz
import Derived.Test.YtdfjfagljngciaaGreatDoorTie
import Derived.Test.YtdfjfagljngciaaGreatDoorCards
import Derived.SevenTiedAt
import Derived.Lib.LaidTab
import Derived.Lay
set_option linter.all false
namespace Go.Proofs.YtdfjfagljngciaaGreatDoor
open Go.ChangeShapes Go.WideShapes Go.ChangeAt Go.RowKit Go.Joins Go.Deep

set_option maxRecDepth 100000 in
theorem stateBack_lifted (os : Os) (started : os.Started) (H : Type) (enc : TypeId × Value → H) :
    ReturnsInHanded {} Tryz.checked os 3 .any (fun w args => (Rows.stateBackSpec.pre enc Tryz.prog Tryz.f3 [] false w args ∧ laidMetH Tryz.prog Rows.stateBackRow.laid w) ∧ sizedMet enc Tryz.prog Tryz.f3 (OpenSpec.ofChange Rows.stateBackSpec) false w args)
      (Rows.stateBackSpec.post enc Tryz.prog Tryz.f3 false true false false) := by
  refine and_shaped (C := Tryz.checked) (X := fun w _ => laidMetH Tryz.prog Rows.stateBackRow.laid w) (fun _ _ _ hh h => h.of_heap hh) Tryz.own started (by kernel_rfl) Tryz.func3
    (ChangeSpec.witness_shaped (enc := enc) (C := Tryz.checked) (os := os) (X := fun w _ => laidMetH Tryz.prog Rows.stateBackRow.laid w) false (World.laidAll Tryz.prog os Rows.stateBackRow.laid) #[.slice none 0 0, .agg #[.int .i64 0, .int .i64 0, .int .i64 0, .int .i64 0, .int .i64 0, .int .i64 0, .string .empty, .string .empty, .slice none 0 0], .agg #[.int .i64 0, .int .i64 0, .int .i64 0, .int .i64 0, .int .i64 0, .int .i64 0, .string .empty, .string .empty, .slice none 0 0]] 8 (World.laidAll_os _ _ _)
      (World.shaped_of_ZipB (by kernel_rfl) (by kernel_rfl)) (by kernel_rfl) (by kernel_rfl) (by kernel_rfl)
      (by rw [MakeChecks.laidMetH_plain _ _ _ (by kernel_rfl)]; exact laidMet_laidAll _ (by kernel_rfl) (by kernel_rfl))) ?_
  intro W base args ds gs before hval0 hW hz _ hS
  have hval : ∀ (j : Nat) t v, Tryz.f3.params[j]? = some t → args[j]? = some v → Value.okWide Tryz.prog W .any base t v := hval0
  have hW' := hW
  obtain ⟨p, q, hA0, hV, rfl, _, _⟩ := hW
  have hA : DataW.TrodAll enc Tryz.prog W 0 (fun _ => true) true Tryz.f3.params.toList args.toList ds p := hA0
  rw [Tryz.params3] at hA hval hz
  obtain ⟨v0, v1, v2, d0, d1, d2, p0, p1, p2, rfl, rfl, rfl, h0, h1, h2⟩ := trodAll_three hA
  obtain ⟨rfl, rfl⟩ := trodVars_none hV
  obtain ⟨l, hl, hlz⟩ := sl_sized Tryz.underlying22 (by kernel_rfl) opens_Deed16 (hval 0 22 v0 rfl rfl) h0 hz (j := 0) rfl rfl
  obtain ⟨x, cs, rfl, hx⟩ := open_rec Tryz.underlying25 opens_Effect (hval 1 25 v1 rfl rfl) h1
  obtain ⟨y, cs2, rfl, hy⟩ := open_rec Tryz.underlying25 opens_Effect (hval 2 25 v2 rfl rfl) h2
  have hb : Tryz.prog.bytesOf 29 = 112 := by kernel_rfl
  rw [hb] at hlz
  obtain ⟨M, hM⟩ := max_cell hS
  refine (state_back_law M v0 l x y cs cs2 W hM hl hx hy hlz).mono fun e W' ⟨he, hk⟩ => ?_
  subst he
  exact ⟨_, rfl, post_keep Tryz.laidOut (by kernel_rfl) rfl hW' rfl rfl Tryz.underlying4 hk.below⟩

theorem stateBack_row : Rows.StateBackSaid :=
  OpenClaim.holds_of_wide 3 Tryz.f3 rfl rfl rfl rfl rfl rfl rfl ⟨rfl, rfl, rfl, rfl, rfl⟩ rfl rfl rfl rfl rfl (by kernel_rfl) Tryz.func3 (by kernel_rfl)
    (of_decide_eq_true (by kernel_rfl)) (by unfold Func.isWrapper; rw [if_neg (by decide +kernel)]; exact ⟨rfl, rfl⟩)
    (fun os started H enc _ => stateBack_lifted os started H enc)
theorem stateBack_holds : Rows.StateBackCardSaid :=
  Claim7.holds_tied_plain_at .later [] [.data, .pinned] true _ _
    stateBack_row (fun _ h => by cases h) (by kernel_rfl) (fun _ h => by cases h) stateBack_row_tie rfl ⟨rfl, rfl⟩ (by kernel_rfl) rfl
    (fun f fn hf hfn => by
      obtain rfl : f = 3 := Option.some.inj ((show Tryz.prog.funcNamed "sump/sumplaw16.StateBack" = some 3 by kernel_rfl).symm.trans hf) |>.symm
      obtain rfl : fn = Tryz.f3 := (Option.some.inj (Tryz.func3.symm.trans hfn)).symm
      exact ⟨by kernel_rfl, fun j t ht => by
        rw [Tryz.params3] at ht
        rcases j with _ | _ | _ | j
        · obtain rfl : t = 22 := by simpa using ht.symm
          kernel_rfl
        · obtain rfl : t = 25 := by simpa using ht.symm
          kernel_rfl
        · obtain rfl : t = 25 := by simpa using ht.symm
          kernel_rfl
        · simp at ht⟩)
    (by kernel_rfl)
#print axioms stateBack_holds
end Go.Proofs.YtdfjfagljngciaaGreatDoor
