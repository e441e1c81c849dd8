/- Package words: a Reader. -/
import Derived.Test.YtdfjfagljngciaaGreatWrt
set_option linter.all false
set_option maxRecDepth 100000
set_option maxHeartbeats 4000000
namespace Go.Proofs.YtdfjfagljngciaaGreat
open Go.RowKit Rx

/-- A reader: the words that it has still, whether it is bad. -/
structure RdAt (w : World) (b : Nat) (l : List UInt64) (bad : Bool) : Prop where
  hb : ∃ v, w.heap[b]? = some (.cells #[v, .bool bad] 137 (0, 0)) ∧ Sl rWord (fun k => b ≤ k) w v l
theorem RdAt.step {O : Nat → Prop} {w w' : World} {b : Nat} {l : List UInt64} {bad : Bool} (h : RdAt w b l bad) (hs : Step O w w') (hn : ∀ k, O k → b < k) : RdAt w' b l bad := by
  obtain ⟨v, h1, h2⟩ := h.hb
  exact ⟨v, hs.blk h1 (fun q => Nat.lt_irrefl _ (hn b q)), h2.step hs (fun k q => Nat.le_of_lt (hn k q))⟩
theorem RdAt.keep {w w' : World} {b : Nat} {l : List UInt64} {bad : Bool} (h : RdAt w b l bad) (hs : Keep w w') : RdAt w' b l bad := h.step hs (fun _ q => q.elim)
theorem RdAt.lt {w : World} {b : Nat} {l : List UInt64} {bad : Bool} (h : RdAt w b l bad) : b < w.heap.size := by
  obtain ⟨v, h1, -⟩ := h.hb
  exact blk_lt h1
theorem words_New (X : Nat → Prop) (v : Value) (l : List UInt64) (hl : l.length ≤ 2 ^ 40) (w : World) (h : Sl rWord X w v l) :
    Calls Tryz.prog 57 #[v] w fun r w' => ∃ b, r = .returned (.pointer (some ⟨b, 0, none⟩)) ∧ RdAt w' b l false ∧ Keep w w' ∧ w.heap.size ≤ b := by
  obtain ⟨a, c, rfl, -⟩ := id h
  refine calls_rx h57 Tryz.func57 rfl Tryz.mixed (by kernel_rfl) Tryz.results57 ?_
  simp -dsimp [go_sem]
  refine (clone_words X _ l w h hl).mono ?_; rintro _ w1 ⟨v1, rfl, o1, k1, b1⟩; refine ret_intro ?_
  obtain ⟨a1, c1, rfl, -⟩ := o1.slice
  simp -dsimp [go_sem]
  generalize hW : w1.alloc _ = w2
  obtain ⟨R2, k2, z2⟩ := alloc1 hW
  clear hW
  have l1 := k1.size
  refine ⟨⟨_, R2, (((o1.keep k2).all flat_word (Y := fun k => w1.heap.size ≤ k)).sl (fun g hg q => by have := o1.lt hg; omega))⟩, Keep.trans k1 k2, l1⟩
theorem reader_Bad (b : Nat) (l : List UInt64) (bad : Bool) (w : World) (h : RdAt w b l bad) :
    Calls Tryz.prog 59 #[.pointer (some ⟨b, 0, none⟩)] w fun r w' => r = .returned (.bool bad) ∧ w = w' := by
  obtain ⟨v, H0, -⟩ := h.hb
  refine calls_rx h59 Tryz.func59 rfl Tryz.mixed (by kernel_rfl) Tryz.results59 ?_
  have H0c := blk_cell H0; have H0f := blk_free H0; have H0l := blk_lt H0
  simp -dsimp [go_sem, H0c, H0f, H0l]
theorem reader_spoil (b : Nat) (l : List UInt64) (bad : Bool) (w : World) (h : RdAt w b l bad) :
    Calls Tryz.prog 99 #[.pointer (some ⟨b, 0, none⟩)] w fun r w' => (∃ u, r = .returned u) ∧ RdAt w' b l true ∧ Step (fun k => k = b) w w' := by
  obtain ⟨v, H0, hv⟩ := h.hb
  refine calls_rx h99 Tryz.func99 rfl Tryz.mixed (by kernel_rfl) Tryz.results99 ?_
  have H0c := blk_cell H0; have H0f := blk_free H0; have H0l := blk_lt H0
  simp -dsimp [go_sem, H0c, H0f, H0l]
  generalize qw1 : World.setCell _ _ _ = w1; have sw1 : Step (fun k => k = b) w w1 := by (rw [← qw1]; (repeat (with_reducible refine Step.set ?_ ?_ _)); (with_reducible exact Step.refl _ _); all_goals exact .inl (by simp))
  replace H0 : (World.heap w1)[b]? = some (.cells #[v, .bool true] 137 (0, 0)) := by (rw [← qw1]; apply blk_eq; (case h => ((repeat (first | with_reducible apply blk_set | with_reducible refine blk_far ?_ (by simp) _)); (exact H0))); (case e => (first | rfl | simp)))
  exact ⟨⟨v, H0, hv.step sw1 (fun k q => by omega)⟩, sw1⟩
def takeR (n : Nat) (l : List UInt64) (bad : Bool) : Option (List UInt64 × List UInt64) := if bad = true ∨ l.length < n then none else some (l.take n, l.drop n)
theorem reader_take (b n : Nat) (hn : n ≤ 2 ^ 40) (l : List UInt64) (bad : Bool) (w : World) (h : RdAt w b l bad) :
    Calls Tryz.prog 98 #[.pointer (some ⟨b, 0, none⟩), .int .i64 n] w fun r w' => Step (fun k => k = b) w w' ∧
      ((takeR n l bad = none ∧ r = .returned (.slice none 0 0) ∧ RdAt w' b l true) ∨ ∃ p o, takeR n l bad = some p ∧ r = .returned o ∧ Sl rWord (fun k => b ≤ k) w' o p.1 ∧ RdAt w' b p.2 false) := by
  obtain ⟨v, H0, hv⟩ := h.hb
  obtain ⟨a, c, rfl, -⟩ := id hv
  have hml := hv.len
  unfold maxLen at hml
  refine calls_rx h98 Tryz.func98 rfl Tryz.mixed (by kernel_rfl) Tryz.results98 ?_
  unfold takeR
  simp -dsimp [go_sem]
  refine (reader_Bad b l bad w h).mono ?_; rintro _ w1 ⟨rfl, rfl⟩; refine ret_intro ?_
  cases bad
  rotate_left
  · simp -dsimp [go_sem]
    refine (reader_spoil b l true w h).mono ?_; rintro _ w1 ⟨⟨u, rfl⟩, h1, s1⟩; refine ret_intro ?_
    simp -dsimp [go_sem]
    exact ⟨s1, h1⟩
  have H0c := blk_cell H0; have H0f := blk_free H0; have H0l := blk_lt H0
  by_cases g : l.length < n
  · have g' : (l.length : Int) < n := by omega
    simp -dsimp [go_sem, H0c, H0f, H0l, g, g']
    refine (reader_spoil b l false w h).mono ?_; rintro _ w1 ⟨⟨u, rfl⟩, h1, s1⟩; refine ret_intro ?_
    simp -dsimp [go_sem]
    exact ⟨s1, .inl ⟨g, h1⟩⟩
  have g' : ¬ (l.length : Int) < n := by omega
  obtain ⟨a', c', e, hc1, hc2, o1⟩ := hv.cut (i := 0) (m := n) (by omega) (by omega)
  cases e
  obtain ⟨a', c', e, -, -, o2⟩ := hv.cut (i := n) (m := l.length) (by omega) (by omega)
  cases e
  have i1 : (n : Int) ≤ c := by omega
  have i2 : (n : Int) ≤ l.length := by omega
  have i3 : (l.length : Int) ≤ c := by omega
  have i4 : n ≤ c := by omega
  have i5 : n ≤ l.length := by omega
  simp -dsimp [go_sem, H0c, H0f, H0l, g, g', i1, i2, i3, i4, i5, hc1]
  generalize qw1 : World.setCell _ _ _ = w1; have sw1 : Step (fun k => k = b) w w1 := by (rw [← qw1]; (repeat (with_reducible refine Step.set ?_ ?_ _)); (with_reducible exact Step.refl _ _); all_goals exact .inl (by simp))
  replace H0 : (World.heap w1)[b]? = some (.cells #[.slice (if c = n then a else Option.map (fun x => x.add n) a) (l.length - n) (c - n), .bool false] 137 (0, 0)) := by (rw [← qw1]; apply blk_eq; (case h => ((repeat (first | with_reducible apply blk_set | with_reducible refine blk_far ?_ (by simp) _)); (exact H0))); (case e => (first | rfl | simp)))
  refine ⟨sw1, ?_, ⟨_, H0, ?_⟩⟩
  · have := o1.step sw1 (fun k q => by omega)
    have ha0 : (if c = 0 then a else Option.map (fun x : Addr => x.add (0 * rWord.n)) a) = a := by
      rw [Nat.zero_mul]
      cases a with
      | none => simp
      | some p => simp [Addr.add]
    unfold sliced at this
    rw [ha0] at this
    simpa using this
  · have := o2.step sw1 (fun k q => by omega)
    simpa [sliced, rWord, repOf, List.take_of_length_le] using this
def numR (l : List UInt64) (bad : Bool) : Int × List UInt64 × Bool :=
  if bad = true then (0, l, true) else match l with | [] => (0, [], true) | x :: r => if 4611686018427387904 < x.toNat then (0, r, true) else (x.toNat, r, false)
theorem reader_Num (b : Nat) (l : List UInt64) (bad : Bool) (w : World) (h : RdAt w b l bad) :
    Calls Tryz.prog 58 #[.pointer (some ⟨b, 0, none⟩)] w fun r w' => r = .returned (.int .i64 (numR l bad).1) ∧ RdAt w' b (numR l bad).2.1 (numR l bad).2.2 ∧ Step (fun k => k = b) w w' := by
  refine calls_rx h58 Tryz.func58 rfl Tryz.mixed (by kernel_rfl) Tryz.results58 ?_
  simp -dsimp [go_sem]
  refine (reader_take b 1 (by omega) l bad w h).mono ?_
  rintro _ w1 ⟨s1, ⟨h1, rfl, h2⟩ | ⟨p, o, h1, rfl, h2, h3⟩⟩
  · refine ret_intro ?_
    have hn : numR l bad = (0, l, true) := by
      unfold numR
      by_cases q : bad = true
      · rw [if_pos q]
      · rw [if_neg q]
        unfold takeR at h1
        rw [ite_eq_left_iff] at h1
        cases l with
        | nil => rfl
        | cons x l => exact absurd (h1 (by simp [q])) (by simp)
    rw [hn]
    simp -dsimp [go_sem]
    exact ⟨h2, s1⟩
  · refine ret_intro ?_
    unfold takeR at h1
    split at h1
    · cases h1
    rename_i g
    simp only [not_or, Nat.not_lt, Bool.not_eq_true] at g
    obtain ⟨rfl, g2⟩ := g
    cases l with
    | nil => simp at g2
    | cons x l =>
      simp at h1
      subst h1
      simp only at h2 h3
      obtain ⟨q, off, c', e, hq, -, hc⟩ := h2.word (i := 0) (x := x) (by simp)
      subst e
      simp only [List.length_cons, List.length_nil]
      rw [Nat.add_zero] at hc
      by_cases g3 : 4611686018427387904 < x.toNat
      · have g4 : (4611686018427387904 : Int) < x.toNat := by omega
        rw [show numR (x :: l) false = (0, l, true) from by unfold numR; rw [if_neg (by decide)]; simp only; rw [if_pos g3]]
        simp -dsimp [go_sem, hq, hc, g3, g4]
        refine (reader_spoil b l false w1 h3).mono ?_
        rintro _ w2 ⟨⟨u, rfl⟩, h4, s2⟩
        refine ret_intro ?_
        simp -dsimp [go_sem]
        exact ⟨h4, s1.both s2⟩
      · have g4 : ¬ (4611686018427387904 : Int) < x.toNat := by omega
        rw [show numR (x :: l) false = ((x.toNat : Int), l, false) from by unfold numR; rw [if_neg (by decide)]; simp only; rw [if_neg g3]]
        simp -dsimp [go_sem, hq, hc, g3, g4]
        exact ⟨IntWalk.i64_in _ (by omega), h3, s1⟩
end Go.Proofs.YtdfjfagljngciaaGreat
