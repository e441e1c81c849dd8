/- An effect that is taken back, in plain Lean. -/
import Derived.Test.YtdfjfagljngciaaGreatDoorBak
import Derived.Test.YtdfjfagljngciaaGreatDoorRor
set_option linter.all false
set_option maxRecDepth 100000
set_option maxHeartbeats 4000000
namespace Go.Proofs.YtdfjfagljngciaaGreatDoor
open Go.RowKit Rx Go.MapKept

theorem eff_unlink {e : Effect} (h : effB { e with kind := 2 } = true) : effB { e with kind := 3 } = true := by
  unfold effB rightS Effect.shape at h ⊢
  simpa using h
theorem eff_back {e : Effect} (h : effB { e with kind := 5 } = true) : effB { e with kind := 5, dir := e.tu, name := e.other, tu := e.dir, other := e.name } = true := by
  unfold effB rightS Effect.shape at h ⊢
  simp at h ⊢
  obtain ⟨⟨⟨⟨h1, h2⟩, h3⟩, h4⟩, h5⟩ := h
  exact ⟨⟨⟨⟨h2, h1⟩, h3⟩, h4⟩, h5⟩
theorem stay_apply {s : St} {e : Effect} {r : Int} (h : (applyS s e r).2.2 ≠ 0) : (applyS s e r).1 = s := by
  unfold applyS at h ⊢
  split
  · rename_i g
    rw [if_pos g] at h
    cases hd : doesS s e r with
    | none => rfl
    | some R => rw [hd] at h; simp at h
  · rfl
theorem does_apply {s : St} {e : Effect} {r : Int} (h : (applyS s e r).2.2 = 0) : effB e = true ∧ ∃ R, doesS s e r = some R ∧ applyS s e r = (R.1, R.2, 0) := by
  unfold applyS at h ⊢
  split
  · rename_i g
    rw [if_pos g] at h
    cases hd : doesS s e r with
    | none => rw [hd] at h; simp at h
    | some R => exact ⟨g, R, rfl, rfl⟩
  · rename_i g
    rw [if_neg g] at h
    simp at h
theorem back_one {i : Nat} {s : St} (h : OwnR i s) (hi : i ≤ 500) (e : Effect) (h0 : (applyS s { e with kind := 2 } 0).2.2 = 0) : applyS (applyS s { e with kind := 2 } 0).1 { e with kind := 3 } 0 = (s, [], 0) := by
  obtain ⟨h1, R, h2, h3⟩ := does_apply h0
  rw [h3]
  unfold doesS at h2
  simp only [if_neg (show ¬ (2 : Int) = 1 from by decide), if_pos] at h2
  cases hl : linkS s { e with kind := 2 } with
  | none => rw [hl] at h2; simp at h2
  | some t =>
    rw [hl] at h2
    simp at h2
    subst h2
    have hb := back_link (b := { e with kind := 3 }) h.good h.tr ⟨rfl, rfl, rfl, rfl⟩ hl
    unfold applyS doesS
    rw [if_pos (eff_unlink h1)]
    simp only [if_neg (show ¬ (3 : Int) = 1 from by decide), if_neg (show ¬ (3 : Int) = 2 from by decide), if_pos (show (3 : Int) = 3 ∨ (3 : Int) = 4 from .inl rfl)]
    rw [hb]
    rfl
theorem back_two {i : Nat} {s : St} (h : OwnR i s) (hi : i ≤ 500) (e : Effect) (hno : (findN (dirN s e.tu).names e.other).2 = false) (h0 : (applyS s { e with kind := 5 } 0).2.2 = 0) :
    applyS (applyS s { e with kind := 5 } 0).1 { e with kind := 5, dir := e.tu, name := e.other, tu := e.dir, other := e.name } 0 = (s, [], 0) := by
  obtain ⟨h1, R, h2, h3⟩ := does_apply h0
  rw [h3]
  obtain ⟨p1, p2, p3, p4, p5, p6, p7, p8, p9⟩ := effB_place h1
  unfold doesS at h2
  simp only [if_neg (show ¬ (5 : Int) = 1 from by decide), if_neg (show ¬ (5 : Int) = 2 from by decide), if_neg (show ¬ ((5 : Int) = 3 ∨ (5 : Int) = 4) from by decide), if_pos] at h2
  cases hl : renameS s { e with kind := 5 } with
  | none => rw [hl] at h2; simp at h2
  | some t =>
    rw [hl] at h2
    simp at h2
    subst h2
    have hb := back_rename (b := { e with kind := 5, dir := e.tu, name := e.other, tu := e.dir, other := e.name }) h.good (by omega) h.tr (p2 rfl) p8 ⟨rfl, rfl, rfl, rfl, rfl⟩ hno hl
    unfold applyS doesS
    rw [if_pos (eff_back h1)]
    simp only [if_neg (show ¬ (5 : Int) = 1 from by decide), if_neg (show ¬ (5 : Int) = 2 from by decide), if_neg (show ¬ ((5 : Int) = 3 ∨ (5 : Int) = 4) from by decide), if_pos]
    rw [hb]
    rfl
end Go.Proofs.YtdfjfagljngciaaGreatDoor
