/- How many words a reader takes for what it reads, in plain Lean; the state of any words. -/
import Derived.Test.YtdfjfagljngciaaGreatRdn
import Derived.Test.YtdfjfagljngciaaGreatRia
set_option linter.all false
set_option maxRecDepth 100000
set_option maxHeartbeats 4000000
namespace Go.Proofs.YtdfjfagljngciaaGreat
open Go.RowKit Rx

theorem numP_used {s : Rd} (h : (numP s).2.2 = false) : s.2 = false ∧ (numP s).2.1.length + 1 ≤ s.1.length := by
  obtain ⟨l, b⟩ := s
  have h : (numR l b).2.2 = false := h
  show b = false ∧ (numR l b).2.1.length + 1 ≤ l.length
  unfold numR at h ⊢
  cases b
  · simp only [Bool.false_eq_true, if_false] at h ⊢
    cases l with
    | nil => simp at h
    | cons x r =>
      simp only at h ⊢
      split at h
      · simp at h
      · rename_i q
        rw [if_neg q]
        simp
  · simp at h
theorem seqR_used : ∀ (m : Nat) {s : Rd}, (seqR m s).2.2 = false → s.2 = false ∧ (seqR m s).2.1.length + m ≤ s.1.length
  | 0, s, h => ⟨h, Nat.le_refl _⟩
  | m + 1, s, h => by
    rw [seqR] at h ⊢
    have h1 := numP_used h
    have h2 := seqR_used m h1.1
    exact ⟨h2.1, by simp only; omega⟩
theorem pagesR_used : ∀ (m : Nat) {s : Rd}, (pagesR m s).2.2 = false → s.2 = false ∧ (pagesR m s).2.1.length ≤ s.1.length
  | 0, s, h => ⟨h, Nat.le_refl _⟩
  | m + 1, s, h => by
    rw [pagesR] at h ⊢
    split at h
    · rename_i q; simp only at h; rw [q] at h; cases h
    · rename_i q
      rw [if_neg q]
      have h2 := pagesR_used m h
      have h1 := numP_used h2.1
      exact ⟨h1.1, by simp only; omega⟩
theorem pagesR_len : ∀ (m : Nat) (s : Rd), (pagesR m s).1.length ≤ m
  | 0, s => by simp [pagesR]
  | m + 1, s => by
    rw [pagesR]
    split
    · simp
    · have := pagesR_len m (numP s).2
      simp only [List.length_cons]; omega
theorem textP_used {s : Rd} (h : (textP s).2.2 = false) : s.2 = false ∧ (textP s).2.1.length + 1 ≤ s.1.length := by
  obtain ⟨l, b⟩ := s
  have h : (textR 24 l b).2.2 = false := h
  show b = false ∧ (textR 24 l b).2.1.length + 1 ≤ l.length
  unfold textR at h ⊢
  simp only at h ⊢
  split at h
  · simp at h
  · rename_i q
    rw [if_neg q]
    have hn : (numR l b).2.2 = false := by cases hq : (numR l b).2.2 with | false => rfl | true => exact absurd (.inr hq) q
    have h1 := numP_used (s := (l, b)) hn
    have h2 : b = false := h1.1
    have h3 : (numR l b).2.1.length + 1 ≤ l.length := h1.2
    refine ⟨h2, ?_⟩
    split at h
    · simp at h
    · rename_i q2
      rw [if_neg q2]
      split
      · simp only [List.length_drop]; omega
      · simp only [List.length_drop]; omega
theorem namesR_used : ∀ (m : Nat) {s : Rd}, (namesR m s).2.2 = false → s.2 = false ∧ (namesR m s).2.1.length + 2 * (namesR m s).1.length ≤ s.1.length
  | 0, s, h => ⟨h, by simp [namesR]⟩
  | m + 1, s, h => by
    rw [namesR] at h ⊢
    split at h
    · rename_i q; simp only at h; rw [q] at h; cases h
    · rename_i q
      rw [if_neg q]
      have h3 := namesR_used m h
      have h2 := numP_used h3.1
      have h1 := textP_used h2.1
      exact ⟨h1.1, by simp only [List.length_cons]; omega⟩
theorem namesR_len : ∀ (m : Nat) (s : Rd), (namesR m s).1.length ≤ m
  | 0, s => by simp [namesR]
  | m + 1, s => by
    rw [namesR]
    split
    · simp
    · have := namesR_len m (numP (textP s).2).2
      simp only [List.length_cons]; omega
theorem getR_len (s : Rd) : (getR s).1.pages.length ≤ 64 ∧ (getR s).1.names.length ≤ 65536 := by
  unfold getR
  simp only
  have h1 := pagesR_len (min (headV s 5) 64).toNat (seqR 7 s).2
  have h2 := namesR_len (min (headV s 6) 65536).toNat (pagesR (min (headV s 5) 64).toNat (seqR 7 s).2).2
  omega
theorem getR_used {s : Rd} (h : (getR s).2.2 = false) : s.2 = false ∧ (getR s).2.1.length + 7 + 2 * (getR s).1.names.length ≤ s.1.length := by
  unfold getR at h ⊢
  simp only at h ⊢
  have h3 := namesR_used _ h
  have h2 := pagesR_used _ h3.1
  have h1 := seqR_used _ h2.1
  exact ⟨h1.1, by omega⟩
theorem nodesR_len : ∀ (m : Nat) (s : Rd), (nodesR m s).1.length ≤ m ∧ ∀ n ∈ (nodesR m s).1, n.pages.length ≤ 64 ∧ n.names.length ≤ 65536
  | 0, s => by simp [nodesR]
  | m + 1, s => by
    rw [nodesR]
    split
    · simp
    · have h1 := nodesR_len m (getR s).2
      refine ⟨by simp only [List.length_cons]; omega, fun n hn => ?_⟩
      rcases List.mem_cons.1 hn with rfl | q
      · exact getR_len s
      · exact h1.2 n q
theorem nodesR_used : ∀ (m : Nat) {s : Rd}, (nodesR m s).2.2 = false → s.2 = false ∧ (nodesR m s).2.1.length + 7 * (nodesR m s).1.length ≤ s.1.length ∧ ∀ n ∈ (nodesR m s).1, 2 * n.names.length ≤ s.1.length
  | 0, s, h => ⟨h, by simp [nodesR], by simp [nodesR]⟩
  | m + 1, s, h => by
    rw [nodesR] at h ⊢
    split at h
    · rename_i q; simp only at h; rw [q] at h; cases h
    · rename_i q
      rw [if_neg q]
      have h2 := nodesR_used m h
      have h1 := getR_used h2.1
      refine ⟨h1.1, by simp only [List.length_cons]; omega, fun n hn => ?_⟩
      rcases List.mem_cons.1 hn with rfl | q
      · omega
      · have := h2.2.2 n q; omega
/-- What is read of words whose sum is right: the last number, the nodes, the reader. -/
def readW (b : List UInt64) : Int × List Node × Rd :=
  let p := numP (b, false)
  let q := numP p.2
  (p.1, nodesR (min q.1 65536).toNat q.2)
/-- The state of any words. -/
def ofW (w : List UInt64) : Option St :=
  match w.getLast? with
  | none => none
  | some t =>
    if sumL w.dropLast = t then
      if (readW w.dropLast).2.2.2 = true then none
      else (ofS (readW w.dropLast).2.1 (readW w.dropLast).1).bind (fun s => if imageW s = w then some s else none)
    else none
theorem ofW_snoc (b : List UInt64) (t : UInt64) : ofW (b ++ [t]) = if sumL b = t then
      if (readW b).2.2.2 = true then none
      else (ofS (readW b).2.1 (readW b).1).bind (fun s => if imageW s = b ++ [t] then some s else none)
    else none := by
  unfold ofW
  rw [List.getLast?_append, List.getLast?_singleton]
  simp
theorem readW_last (b : List UInt64) : 0 ≤ (readW b).1 ∧ (readW b).1 ≤ 4611686018427387904 := numR_nn b false
theorem ofS_some {l : List Node} {last : Int} {s : St} (h : ofS l last = some s) : s = ⟨l, last⟩ ∧ riseB 0 l = true ∧ rigS s = true := by
  unfold ofS at h
  split at h
  · rename_i q
    cases h
    exact ⟨rfl, q⟩
  · cases h
theorem rigS_parts {s : St} (h : rigS s = true) : isDir s 1 = true ∧ allOk s = true ∧ s.L.all (nodeB s) = true ∧ sideB ((refsS s).mergeSort (fun x y => decide (x ≤ y))) = true := by
  unfold rigS at h
  simp only [Bool.and_eq_true] at h
  exact ⟨h.1.1.1, h.1.1.2, h.1.2, h.2⟩
/-- What was read of few words is of bounded size. -/
theorem ofS_good {b : List UInt64} {s : St} (hb : b.length ≤ 500) (hbad : (readW b).2.2.2 = false) (h : ofS (readW b).2.1 (readW b).1 = some s) : Good 256 s := by
  obtain ⟨rfl, h1, h2⟩ := ofS_some h
  obtain ⟨a1, a2, -, -⟩ := rigS_parts h2
  have hl := readW_last b
  obtain ⟨q1, q2, q3⟩ := nodesR_used _ (s := (numP (numP (b, false)).2).2) hbad
  have h3 := numP_used q1
  have h4 := numP_used h3.1
  have h5 : ((b, false) : Rd).1.length = b.length := rfl
  have hS : (nodesR (min (numP (numP (b, false)).2).1 65536).toNat (numP (numP (b, false)).2).2).1 = (readW b).2.1 := rfl
  rw [hS] at q2 q3
  exact good_any (rise_srt h1).1 (by simp only; omega) (fun n hn => by have := q3 n hn; omega) a2 a1 (by simp only; omega)
theorem ofW_some {w : List UInt64} {s : St} (h : ofW w = some s) : imageW s = w ∧ rigS s = true ∧ (w.length ≤ 500 → Good 256 s) := by
  unfold ofW at h
  cases hg : w.getLast? with
  | none => rw [hg] at h; cases h
  | some t =>
    rw [hg] at h
    simp only at h
    split at h
    · split at h
      · cases h
      · rename_i hbad
        cases ho : ofS (readW w.dropLast).2.1 (readW w.dropLast).1 with
        | none => rw [ho] at h; cases h
        | some s' =>
          rw [ho] at h
          simp only [Option.bind_some] at h
          split at h
          · rename_i q
            cases h
            refine ⟨q, (ofS_some ho).2.2, fun hl => ofS_good (by rw [List.length_dropLast]; omega) (by simpa using hbad) ho⟩
          · cases h
    · cases h
end Go.Proofs.YtdfjfagljngciaaGreat
