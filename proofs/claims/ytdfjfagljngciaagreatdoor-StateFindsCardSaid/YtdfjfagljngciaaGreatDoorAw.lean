/- The example of chapter 16. -/
import Derived.Test.YtdfjfagljngciaaGreatDoorRor
import Derived.Test.YtdfjfagljngciaaGreatDoorFnd
import Derived.Test.YtdfjfagljngciaaGreatDoorNil
set_option linter.all false
set_option maxRecDepth 100000
set_option maxHeartbeats 4000000
namespace Go.Proofs.YtdfjfagljngciaaGreatDoor
open Go.RowKit Rx Go.MapKept

def make16 : Effect := ⟨1, 2, 1, 0, 1, 0, ⟨#[97]⟩, ⟨#[]⟩, []⟩
theorem own_awake : doneS [⟨make16, 0⟩] = ownS [⟨make16, 0⟩] 1 := by
  rfl
theorem find_awake : findP (doneS [⟨make16, 0⟩]) ⟨#[47, 97]⟩ = (2, 0) := by decide
theorem sl_make16 {V : World} {g : Nat} (hb : V.heap[g]? = some (.cells #[.int .i64 1, .int .i64 2, .int .i64 1, .int .i64 0, .int .i64 1, .int .i64 0, .string ⟨#[97]⟩, .string ⟨#[]⟩, .slice none 0 0, .int .i64 0] 29 (0, 0))) : Sl rDeed16 (fun _ => False) V (.slice (some ⟨g, 0, none⟩) 1 1) [⟨make16, 0⟩] :=
  Sl.of_blk (r := rDeed16) hb id (Cs.one (r := rDeed16) (x := ⟨make16, 0⟩) (cs := Deed16.enc ⟨make16, 0⟩ (.slice none 0 0)) ⟨_, rfl, Sl.nil _ _ _, by unfold Deed16.ok Effect.ok make16 I64; simp⟩) rfl (by unfold maxLen; omega)
theorem awake16 (M : Int) (w : World) (hm : w.cell? ⟨0, 0, none⟩ = some (.int .i64 M)) : Calls Tryz.prog 6 #[] w fun r w' => r = .returned (.bool true) ∧ Keep w w' := by
  refine calls_rx h6 Tryz.func6 rfl Tryz.mixed (by kernel_rfl) Tryz.results6 ?_
  simp -dsimp [go_sem]
  generalize hW : w.alloc _ = W
  obtain ⟨X0, k0, z0⟩ := alloc1s hW
  clear hW
  refine (law_Done [⟨make16, 0⟩] _ W (sl_make16 X0) (by decide) (fun x hx => by simp at hx; subst hx; unfold Effect.few make16; decide)).mono ?_
  rintro _ w1 ⟨b, m, c, u, rfl, T1, k1⟩
  refine ret_intro ?_
  have S1 := T1.st
  have hown := ownR_own [⟨make16, 0⟩] 1 (by decide) (by decide)
  rw [← own_awake] at hown
  have hfd := find_awake
  generalize doneS [⟨make16, 0⟩] = s at S1 hown hfd
  have k01 := Keep.trans k0 k1
  simp -dsimp [go_sem]
  refine (state_Find _ b m s (hown.good.fine (by omega)) _ M w1 (k01.cell hm (fun q => q)) S1).mono ?_; rintro _ w2 ⟨rfl, k2⟩; refine ret_intro ?_
  rw [hfd]
  simp -dsimp [go_sem]
  refine (hown.right (by omega) _ b m w2 (S1.keep k2)).mono ?_; rintro _ w3 ⟨rfl, k3⟩; refine ret_intro ?_
  simp -dsimp [go_sem]
  exact Keep.trans k01 (Keep.trans k2 k3)
end Go.Proofs.YtdfjfagljngciaaGreatDoor
