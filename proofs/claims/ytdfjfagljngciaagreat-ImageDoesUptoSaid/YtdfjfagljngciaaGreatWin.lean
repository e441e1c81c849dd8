/- Plain laws of states: which node is within which, however far. -/
import Derived.Test.YtdfjfagljngciaaGreatStq
set_option linter.all false
set_option maxRecDepth 100000
set_option maxHeartbeats 4000000
namespace Go.Proofs.YtdfjfagljngciaaGreat
open Go.RowKit Rx Go.MapKept

/-- One comes from i to d upwards. -/
inductive Wi (s : St) (d : Int) : Int → Prop
  | refl : Wi s d d
  | up {i : Int} : isDir s i = true → (dirN s i).up ≠ i → Wi s d (dirN s i).up → Wi s d i
theorem within_fwd {s : St} {d : Int} {k : Nat} {i : Int} (h : withinN s d (k + 1) i = true) : i = d ∨ (isDir s i = true ∧ (dirN s i).up ≠ i ∧ withinN s d k (dirN s i).up = true) := by
  rw [withinN] at h
  by_cases g : i = d
  · exact .inl g
  · rw [if_neg g] at h
    by_cases g2 : isDir s i = false ∨ (dirN s i).up = i
    · rw [if_pos g2] at h; cases h
    · rw [if_neg g2] at h
      simp only [not_or, Bool.not_eq_false] at g2
      exact .inr ⟨g2.1, g2.2, h⟩
theorem within_self (s : St) (d : Int) (k : Nat) : withinN s d k d = true := by
  cases k with
  | zero => simp [withinN]
  | succ k => rw [withinN, if_pos rfl]
theorem within_bwd {s : St} {d : Int} {k : Nat} {i : Int} (h1 : isDir s i = true) (h2 : (dirN s i).up ≠ i) (h : withinN s d k (dirN s i).up = true) : withinN s d (k + 1) i = true := by
  rw [withinN]
  by_cases g : i = d
  · rw [if_pos g]
  · rw [if_neg g, if_neg (by simp [h1, h2]), h]
theorem within_Wi {s : St} {d : Int} : ∀ (k : Nat) {i : Int}, withinN s d k i = true → Wi s d i
  | 0, i, h => by
    have : i = d := by simpa [withinN] using h
    rw [this]; exact .refl
  | k + 1, i, h => by
    rcases within_fwd h with rfl | ⟨h1, h2, h3⟩
    · exact .refl
    · exact .up h1 h2 (within_Wi k h3)
theorem Wi_within {s : St} {d i : Int} (h : Wi s d i) : ∃ k, withinN s d k i = true := by
  induction h with
  | refl => exact ⟨0, within_self s d 0⟩
  | up h1 h2 _ ih =>
    obtain ⟨k, hk⟩ := ih
    exact ⟨k + 1, within_bwd h1 h2 hk⟩
theorem within_mono {s : St} {d : Int} : ∀ (k : Nat) {i : Int}, withinN s d k i = true → withinN s d (k + 1) i = true
  | 0, i, h => by
    have : i = d := by simpa [withinN] using h
    rw [this]; exact within_self s d 1
  | k + 1, i, h => by
    rcases within_fwd h with rfl | ⟨h1, h2, h3⟩
    · exact within_self s _ _
    · exact within_bwd h1 h2 (within_mono k h3)
theorem within_le {s : St} {d i : Int} {k k' : Nat} (h : withinN s d k i = true) (hk : k ≤ k') : withinN s d k' i = true := by
  induction hk with
  | refl => exact h
  | step _ ih => exact within_mono _ ih
/-- The way upwards. -/
def upN (s : St) (i : Int) : Nat → Int
  | 0 => i
  | k + 1 => (dirN s (upN s i k)).up
theorem upN_up (s : St) (i : Int) : ∀ k, upN s (dirN s i).up k = upN s i (k + 1)
  | 0 => rfl
  | k + 1 => by rw [upN, upN_up s i k]; rfl
/-- What is met on the way, where no shorter one leads there. -/
theorem way {s : St} {d : Int} : ∀ (m : Nat) {i : Int}, withinN s d m i = true → (∀ j, j < m → withinN s d j i = false) → ∀ j, j < m → isDir s (upN s i j) = true ∧ (dirN s (upN s i j)).up ≠ upN s i j ∧ withinN s d (m - j) (upN s i j) = true
  | 0, i, _, _, j, hj => by omega
  | m + 1, i, h, hmin, j, hj => by
    have hne : i ≠ d := fun e => by have := hmin 0 (by omega); rw [e, within_self] at this; cases this
    rcases within_fwd h with e | ⟨h1, h2, h3⟩
    · exact absurd e hne
    · cases j with
      | zero => exact ⟨h1, h2, h⟩
      | succ j =>
        have hmin' : ∀ q, q < m → withinN s d q (dirN s i).up = false := fun q hq => by
          cases hw : withinN s d q (dirN s i).up with
          | false => rfl
          | true => have := hmin (q + 1) (by omega); rw [within_bwd h1 h2 hw] at this; cases this
        have := way m h3 hmin' j (by omega)
        rw [upN_up] at this
        rw [show m + 1 - (j + 1) = m - j from by omega]
        exact this
/-- Back to the way's beginning. -/
theorem way_back {s : St} {d : Int} : ∀ (a : Nat) {i : Int} {q : Nat}, (∀ j, j < a → isDir s (upN s i j) = true ∧ (dirN s (upN s i j)).up ≠ upN s i j) → withinN s d q (upN s i a) = true → withinN s d (q + a) i = true
  | 0, i, q, _, h => h
  | a + 1, i, q, hw, h => by
    have h0 := hw 0 (by omega)
    have := way_back a (i := (dirN s i).up) (q := q) (fun j hj => by rw [upN_up]; exact hw (j + 1) (by omega)) (by rw [upN_up]; exact h)
    rw [show q + (a + 1) = (q + a) + 1 from by omega]
    exact within_bwd h0.1 h0.2 this
theorem nodup_le {α : Type} [DecidableEq α] : ∀ {l l' : List α}, l.Nodup → (∀ x ∈ l, x ∈ l') → l.length ≤ l'.length
  | [], _, _, _ => Nat.zero_le _
  | x :: l, l', h, hs => by
    rw [List.nodup_cons] at h
    have hx := hs x (List.mem_cons_self ..)
    have := nodup_le (l := l) (l' := l'.erase x) h.2 (fun y hy => (List.mem_erase_of_ne (fun e => h.1 (by rw [← e]; exact hy))).2 (hs y (List.mem_cons_of_mem _ hy)))
    rw [List.length_erase_of_mem hx] at this
    have := List.length_pos_of_mem hx
    rw [List.length_cons]; omega
theorem withinS_iff {s : St} {i d : Int} : withinS s i d = true ↔ Wi s d i := by
  constructor
  · exact within_Wi _
  · intro h
    obtain ⟨k, hk⟩ := Wi_within h
    -- the least way
    obtain ⟨m, hm, hmin⟩ : ∃ m, withinN s d m i = true ∧ ∀ j, j < m → withinN s d j i = false := by
      induction k using Nat.strongRecOn with
      | ind k ih =>
        by_cases g : ∃ j, j < k ∧ withinN s d j i = true
        · obtain ⟨j, hj, hw⟩ := g
          exact ih j hj hw
        · refine ⟨k, hk, fun j hj => ?_⟩
          cases hw : withinN s d j i with
          | false => rfl
          | true => exact absurd ⟨j, hj, hw⟩ g
    have hw := way m hm hmin
    refine within_le hm ?_
    have hnd : ((List.range m).map (upN s i)).Nodup := by
      rw [List.Nodup, List.pairwise_map]
      refine List.Pairwise.imp_of_mem ?_ (List.pairwise_lt_range (n := m))
      intro a b ha hb hab e
      have hb' := List.mem_range.1 hb
      have h1 := (hw b hb').2.2
      rw [← e] at h1
      have h2 := way_back a (i := i) (q := m - b) (fun j hj => ⟨(hw j (by omega)).1, (hw j (by omega)).2.1⟩) h1
      have := hmin (m - b + a) (by omega)
      rw [h2] at this; cases this
    have hsub : ∀ x ∈ (List.range m).map (upN s i), x ∈ s.L.map (·.ino) := by
      intro x hx
      obtain ⟨j, hj, rfl⟩ := List.mem_map.1 hx
      have hd := (isDir_some (hw j (List.mem_range.1 hj)).1).1
      obtain ⟨n, hn⟩ := Option.isSome_iff_exists.1 hd
      exact List.mem_map.2 ⟨n, (getL_some hn).1, (getL_some hn).2⟩
    have := nodup_le hnd hsub
    simpa using this
end Go.Proofs.YtdfjfagljngciaaGreat
