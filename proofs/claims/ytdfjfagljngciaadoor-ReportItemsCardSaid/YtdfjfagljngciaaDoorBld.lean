/- strings.Builder, wherever it lies (alone, or as a record's first part): written and read. -/
import Derived.Test.YtdfjfagljngciaaDoorRep
import Derived.Test.YtdfjfagljngciaaDoorHints
import Derived.Lib.Builder
import Derived.Shelf.Strings.Builder1
set_option linter.all false
namespace Go.Proofs.YtdfjfagljngciaaDoor
open Go.RowKit Rx

/-- A builder in block b, of type T, that holds the bytes l; nobody else writes b and its row; all from B on. -/
def Bld (w : World) (T B b : Nat) (l : List UInt8) : Prop := ∃ p, (p = .pointer none ∨ p = .pointer (some ⟨b, 0, none⟩)) ∧ Lib.BuilderAt T 5 B b p (Lib.byteCells l) w
/-- What T must be. -/
structure BldT (T : Nat) : Prop where
  lies : liesAt Tryd.prog Tryd.prog.depth T (2 / Tryd.prog.cellsOf T) 0 60 1 = true
  ne : T ≠ 5
theorem Bld.keep {w w' : World} {T B b : Nat} {l : List UInt8} (h : Bld w T B b l) (k : Keep w w') : Bld w' T B b l := by
  obtain ⟨p, hp, hB, v, hb, ho, hn⟩ := h
  exact ⟨p, hp, hB, v, k.blk hb (fun q => q), ho.kept ⟨k.os, k.tape, k.output, k.size, fun i hi _ => k.block i hi (fun q => q)⟩ (row := none) (Classical.em _), hn⟩

/-- What writing into a builder may change: its block, and rows of bytes, from B on. -/
def OB (B b : Nat) (w : World) (k : Nat) : Prop := B ≤ k ∧ (k = b ∨ ∃ cs fr, w.heap[k]? = some (.cells cs 5 fr))
theorem OB.both {B b : Nat} {w w1 w2 : World} (h : Step (OB B b w) w w1) (k : Step (OB B b w1) w1 w2) : Step (OB B b w) w w2 := by
  refine h.trans k (fun i hi ⟨q1, q2⟩ => ⟨q1, ?_⟩)
  rcases q2 with q2 | ⟨cs, fr, q2⟩
  · exact .inl q2
  · by_cases ho : OB B b w i
    · exact ho.2
    · exact .inr ⟨cs, fr, by rw [← h.block i hi ho]; exact q2⟩
theorem OB.keep {B b : Nat} {w w1 w2 : World} (h : Keep w w1) (k : Step (OB B b w1) w1 w2) : Step (OB B b w) w w2 := OB.both h.any k
theorem OB.from {B b : Nat} {w0 w w' : World} (h : Keep w0 w) (k : Step (OB B b w) w w') (hB : w0.heap.size ≤ B) : Keep w0 w' := h.keep k (fun i q => Nat.le_trans hB q.1)
theorem own_OB {w : World} {B b : Nat} {v : Value} {n : Nat} {xs : List Value} (h : w.ownsRow B 5 1 v n xs) : ∀ k, v.ownBlock = some k → OB B b w k := by
  intro k hk
  rcases h.2 with ⟨rfl, _⟩ | ⟨g, cap, cur, rfl, hb, hg, _⟩
  · cases hk
  · simp [Value.ownBlock] at hk
    subst hk
    exact ⟨hb, .inr ⟨_, _, hg⟩⟩
theorem step_of_below {B : Nat} {w w' : World} (h : Below B w w') : Step (B ≤ ·) w w' := ⟨h.os, h.tape, h.output, h.size, fun k _ hn => h.block k (by omega)⟩
theorem builder_copyCheck (T B b : Nat) (hT : BldT T) (l : List UInt8) (w : World) (h : Bld w T B b l) :
    Calls Tryd.prog 38 #[.pointer (some ⟨b, 0, none⟩)] w fun e w' => e = .returned (.tuple #[]) ∧ Lib.BuilderAt T 5 B b (.pointer (some ⟨b, 0, none⟩)) (Lib.byteCells l) w' ∧ Step (OB B b w) w w' := by
  obtain ⟨p, hp, hb⟩ := h
  have c0 := hb.cell0
  refine calls_rx h38 Tryd.func38 rfl Tryd.mixed (by kernel_rfl) Tryd.results38 ?_
  have hsh : w.shape? b = some (T, 2) := hb.shape
  have hfz : w.frozen? ⟨b, 0, none⟩ = false := hb.frozen0
  obtain ⟨j, hj, hjs⟩ := Option.map_eq_some_iff.1 (show (Tryd.prog.info? 60).map (·.size) = some 2 from by kernel_rfl)
  have hne : ∀ w, (callFunc 42 #[.pointer (some ⟨b, 0, none⟩)]).run Tryd.prog w = .ok (.value (.pointer (some ⟨b, 0, none⟩))) w := fun w => by
    rw [run_callFunc_extern Tryd.func42 (by kernel_rfl) (by kernel_rfl) (by kernel_rfl) (e := Extern.AbiNoEscape.same) (by kernel_rfl), Lib.run_noEscape]; rfl
  rcases hp with rfl | rfl
  · have h1 := Lib.run_to_unsafe (P := Tryd.prog) w ⟨b, 0, none⟩ Tryd.underlying58 Tryd.underlying80 hj (by rw [hjs]; decide) hsh (Nat.zero_lt_succ 1)
    have h2 := Lib.run_from_unsafe (P := Tryd.prog) w ⟨b, 0, none⟩ Tryd.underlying80 Tryd.underlying58 hj hsh hT.lies
    simp -dsimp [go_sem, c0, h1, h2, hne, hfz]
    exact ⟨hb.used _, (Step.refl (OB B b w) w).set (p := ⟨b, 0, none⟩) (.inl ⟨hb.1, .inl rfl⟩) _⟩
  · have h3 := Lib.run_neq_ptr_same (P := Tryd.prog) w ⟨b, 0, none⟩ Tryd.underlying58 hj
    simp -dsimp [go_sem, c0, h3]
    exact ⟨hb, Step.refl _ _⟩

theorem byteCells_str (l : List UInt8) (s : ByteArray) : Lib.byteCells l ++ Lib.strCells s = Lib.byteCells (l ++ s.data.toList) := by simp [Lib.byteCells, Lib.strCells]
theorem builder_WriteString (T B b : Nat) (hT : BldT T) (l : List UInt8) (s : ByteArray) (w : World) (h : Bld w T B b l) (hlen : l.length + s.size ≤ 140737488355328) (hBw : B ≤ w.heap.size) :
    Calls Tryd.prog 25 #[.pointer (some ⟨b, 0, none⟩), .string s] w fun e w' => e = .returned (.tuple #[.int .i64 s.size, .nilIface]) ∧ Bld w' T B b (l ++ s.data.toList) ∧ Step (OB B b w) w w' := by
  refine calls_rx h25 Tryd.func25 rfl Tryd.mixed (by kernel_rfl) Tryd.results25 ?_
  simp -dsimp [go_sem]
  refine (builder_copyCheck T B b hT l w h).mono ?_; rintro e w1 ⟨rfl, h1, k1⟩; refine ret_intro ?_
  obtain ⟨hB, v, hbk, hown, hne⟩ := h1
  have hp := blk_lt hbk
  have hc := blk_cell hbk
  have hf := blk_free hbk
  simp -dsimp [go_sem, hp, hc, hf]
  obtain ⟨i, hi, hiz⟩ := info_parts (show (Tryd.prog.info? 5).map (fun i => (i.zero, i.size, i.bytes)) = some (some (.int .u8 0), 1, 1) from by kernel_rfl)
  obtain ⟨v2, w2, hr, o2, g2, -⟩ := Lib.run_append_own_string (P := Tryd.prog) w1 B 23 9 23 5 i Tryd.underlying23 Tryd.underlying9 hi hiz.1 hiz.2.1 hiz.2.2 v _ _ hown s (by rw [Lib.byteCells_length]; unfold maxLen; omega) (by rw [Lib.byteCells_length]; omega) (Nat.le_trans hBw k1.size)
  refine appF_intro hr ?_
  have hb2 : w2.heap[b]? = some (.cells #[.pointer (some ⟨b, 0, none⟩), v] T (0, 0)) := by
    rw [g2.block b hp (fun e => hne e.symm)]; exact hbk
  have hp2 := blk_lt hb2
  have hc2 := blk_cell hb2
  have hf2 := blk_free hb2
  obtain ⟨ao, n', cap, rfl⟩ : ∃ ao n' cap, v2 = .slice ao n' cap := by
    rcases o2.2 with ⟨hv, _⟩ | ⟨g, cap, cur, hv, _⟩
    · exact ⟨_, _, _, hv⟩
    · exact ⟨_, _, _, hv⟩
  simp -dsimp [go_sem, hp2, hc2, hf2]
  have kb : Step (OB B b w1) w1 w2 := (Step.refl (OB B b w1) w1).grown g2 (fun k hk => .inl (own_OB hown k hk))
  refine ⟨⟨_, .inr rfl, ?_⟩, (OB.both k1 kb).set (p := ⟨b, 1, none⟩) (.inl ⟨hB, .inl rfl⟩) _⟩
  rw [← byteCells_str]
  exact Lib.BuilderAt.put hB hb2 (by simpa [Lib.strCells_length] using o2) hT.ne

theorem builder_String (T B b : Nat) (hT : BldT T) (l : List UInt8) (w : World) (h : Bld w T B b l) (hBw : B ≤ w.heap.size) :
    Calls Tryd.prog 26 #[.pointer (some ⟨b, 0, none⟩)] w fun e w' => e = .returned (.string ⟨l.toArray⟩) ∧ Step (OB B b w) w w' := by
  obtain ⟨p, hp, hB, v, hbk, hown, hne⟩ := h
  rw [Lib.byteCells_length] at hown
  have hc := blk_cell hbk
  have hlt := blk_lt hbk
  have hcd := blk_cell (w := w.drew) hbk
  refine calls_rx h26 Tryd.func26 rfl Tryd.mixed (by kernel_rfl) Tryd.results26 ?_
  have hUN : ∀ (p : Option Addr) (w : World), (Builtin.unsafeString_ #[76, 3] 9 #[.pointer p, .int .i64 0]).run Tryd.prog w = .ok (.string .empty) w := fun p w => Lib.run_unsafeString_none (p := p) ..
  simp -dsimp [go_sem]
  rcases hown.2 with ⟨rfl, hz⟩ | ⟨g, cap, cur, rfl, hbg, hg, hnc, hcm, hcs, htake⟩
  · have hl : l = [] := List.length_eq_zero_iff.1 hz
    subst hl
    have hSD : ∀ w, (Builtin.unsafeSliceData_ #[23] 76 #[.slice none 0 0]).run Tryd.prog w = .ok (.pointer none) w := fun w => Lib.run_unsafeSliceData_nil (w := w) _ _ _ _
    refine blankF_intro w (Agree.refl w) ?_
    simp -dsimp [go_sem, hc, hlt, hcd, hSD, hUN]
    exact ⟨agree_drew (Agree.refl w), rfl, (Step.refl _ w).drew⟩
  · by_cases hl : l = []
    · subst hl
      by_cases h0 : cap = 0
      · subst h0
        have hSD := Lib.run_unsafeSliceData_zero (P := Tryd.prog) (w := w.drew) #[23] 76 5 Tryd.underlying76 ⟨g, 0, none⟩ 0 (5, cur.size) (by have hg' : w.drew.heap[g]? = some (.cells cur 5 (0, 0)) := hg; simp [World.shape?, hg'])
        refine blankF_intro w (Agree.refl w) ?_
        simp -dsimp [go_sem, hc, hlt, hcd, hSD, hUN]
        exact ⟨agree_drew (agree_alloc (Agree.refl _) _), rfl, ((Step.refl _ w).alloc _).drew⟩
      · have hSD : ∀ w, (Builtin.unsafeSliceData_ #[23] 76 #[.slice (some ⟨g, 0, none⟩) 0 cap]).run Tryd.prog w = .ok (.pointer (some ⟨g, 0, none⟩)) w := fun w => Lib.run_unsafeSliceData_row (w := w) _ _ _ _ _ h0
        refine blankF_intro w (Agree.refl w) ?_
        simp -dsimp [go_sem, hc, hlt, hcd, hSD, hUN]
        exact ⟨agree_drew (Agree.refl w), rfl, (Step.refl _ w).drew⟩
    · have hl0 : l.length ≠ 0 := by simpa using hl
      have hSD : ∀ w, (Builtin.unsafeSliceData_ #[23] 76 #[.slice (some ⟨g, 0, none⟩) l.length cap]).run Tryd.prog w = .ok (.pointer (some ⟨g, 0, none⟩)) w := fun w =>
        Lib.run_unsafeSliceData_row (w := w) _ _ _ _ _ (by omega)
      have hUS : (Builtin.unsafeString_ #[76, 3] 9 #[.pointer (some ⟨g, 0, none⟩), .int .i64 l.length]).run Tryd.prog w.drew = .ok (.string ⟨l.toArray⟩) (w.drew.freeze ⟨g, 0, none⟩ l.length) := by
        refine Lib.run_unsafeString_row w.drew 76 3 9 5 Tryd.underlying76 (by kernel_rfl) g cur.size (by have hg' : w.drew.heap[g]? = some (.cells cur 5 (0, 0)) := hg; simp [World.shape?, hg']) l hl (by omega) (by unfold maxLen at hcm; omega) ?_
        intro j x hx
        exact hown.cells (g := g) rfl j (.int .u8 x.toNat) (by simp [Lib.byteCells, hx])
      have hgb : b ≠ g := fun q => hne (by rw [q]; rfl)
      obtain ⟨w0, hw0⟩ : ∃ w0 : World, w0 = { w with heap := w.heap.setIfInBounds g (.coro none) } := ⟨_, rfl⟩
      have hne2 : ∀ k, k ≠ g → w0.heap[k]? = w.heap[k]? := fun k hk => by rw [hw0]; exact Array.getElem?_setIfInBounds_ne (fun e => hk e.symm)
      have hA : ∀ w', (∀ k, k ≠ g → w'.heap[k]? = w.heap[k]?) → Agree w0 w' := fun w' hw' k o ho hh => by
        by_cases hk : k = g
        · subst hk
          rw [hw0] at ho
          simp only [Array.getElem?_setIfInBounds_self] at ho
          split at ho
          · cases ho; cases hh
          · cases ho
        · rw [hw' k hk, ← hne2 k hk]; exact ho
      refine blankF_intro w0 (hA w (fun _ _ => rfl)) ?_
      have hb0 : w0.heap[b]? = some (.cells #[p, .slice (some ⟨g, 0, none⟩) l.length cap] T (0, 0)) := by rw [hne2 b hgb]; exact hbk
      have hc3 := blk_cell hb0
      have hl3 := blk_lt hb0
      simp -dsimp [go_sem, hc, hlt, hcd, hSD, hUS, hc3, hl3]
      have hfr : ∀ k, k ≠ g → (w.drew.freeze ⟨g, 0, none⟩ l.length).heap[k]? = w.heap[k]? := fun k hk => by
        unfold World.freeze
        rw [if_neg hl0]
        simp only [Array.getElem?_modify]
        rw [if_neg (fun e => hk e.symm)]; rfl
      have fb := Lib.below_freeze (Below.drew (Below.refl B w)) (p := ⟨g, 0, none⟩) hbg l.length
      have fz : Step (OB B b w) w (w.drew.freeze ⟨g, 0, none⟩ l.length) := ⟨fb.os, fb.tape, fb.output, fb.size, fun k _ hk => hfr k (fun e => hk (by subst e; exact ⟨hbg, .inr ⟨_, _, hg⟩⟩))⟩
      exact ⟨hA _ (fun _ _ => rfl), hA _ hfr, fz⟩
end Go.Proofs.YtdfjfagljngciaaDoor
