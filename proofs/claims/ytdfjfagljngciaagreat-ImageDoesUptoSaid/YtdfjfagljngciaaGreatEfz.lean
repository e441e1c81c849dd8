/- Package effect: whether an effect may be. Package effect: Check, and the document's. -/
import Derived.Test.YtdfjfagljngciaaGreatNam
set_option linter.all false
set_option maxRecDepth 100000
set_option maxHeartbeats 4000000
namespace Go.Proofs.YtdfjfagljngciaaGreat
open Go.RowKit Rx

def holed (w : World) (b : Nat) : World := { w with heap := w.heap.setIfInBounds b (.coro none) }
theorem holed_blk {w : World} {b k : Nat} (hk : k ≠ b) : (holed w b).heap[k]? = w.heap[k]? := Array.getElem?_setIfInBounds_ne (fun e => hk e.symm)
theorem holed_agree {w w' : World} {b : Nat} (h : ∀ k, k < w.heap.size → k ≠ b → w'.heap[k]? = w.heap[k]?) : Agree (holed w b) w' := fun k o ho hh => by
  by_cases hk : k = b
  · subst hk
    unfold holed at ho
    simp only [Array.getElem?_setIfInBounds_self] at ho
    split at ho
    · cases ho; cases hh
    · cases ho
  · rw [holed_blk hk] at ho
    rw [h k (blk_lt ho) hk]; exact ho
theorem holed_set {W w : World} {b : Nat} (h : Agree (holed W b) w) (o : Nat) (v : Value) : Agree (holed W b) (w.setCell ⟨b, o, none⟩ v) := by
  refine Step.agree (O := fun k => k = b) (Step.set (Step.refl (fun k => k = b) w) (p := ⟨b, o, none⟩) (.inl rfl) v) h (fun k o ho hh hk => ?_)
  subst hk
  unfold holed at ho
  simp only [Array.getElem?_setIfInBounds_self] at ho
  split at ho
  · cases ho; cases hh
  · cases ho
theorem alloc3 {w W : World} {A B C : Obj} (h : ((w.alloc A).alloc B).alloc C = W) : W.heap[w.heap.size]? = some A ∧ W.heap[w.heap.size + 1]? = some B ∧ W.heap[w.heap.size + 1 + 1]? = some C ∧ Keep w W ∧ W.heap.size = w.heap.size + 3 := by
  subst h
  refine ⟨blk_alloc (blk_alloc (heap_alloc_new w A) B) C, ?_, ?_, (((Keep.refl w).alloc _).alloc _).alloc _, by simp⟩
  · have := blk_alloc (heap_alloc_new (w.alloc A) B) C
    rwa [World.size_alloc] at this
  · have := heap_alloc_new ((w.alloc A).alloc B) C
    rwa [World.size_alloc, World.size_alloc] at this
structure Shape where
  kind : Int
  ino : Int
  dir : Int
  to : Int
  page : Int
  size : Int
  name : ByteArray
  other : ByteArray
  deriving DecidableEq
def Shape.enc (x : Shape) : Array Value := #[.int .i64 x.kind, .int .i64 x.ino, .int .i64 x.dir, .int .i64 x.to, .int .i64 x.page, .int .i64 x.size, .string x.name, .string x.other]
def Effect.shape (e : Effect) : Shape := ⟨e.kind, e.ino, e.dir, e.to, e.page, e.size, e.name, e.other⟩
def numB (n : Int) : Bool := decide (1 ≤ n) && decide (n ≤ 1048576)
def placeB (d : Int) (s : ByteArray) : Bool := numB d && decide (nameC s = 0)
def rightS (e : Effect) : Shape × Bool :=
  if e.kind = 1 then (⟨e.kind, e.ino, e.dir, 0, e.page, 0, e.name, ⟨#[]⟩⟩, placeB e.dir e.name && (decide (e.page = 1) || decide (e.page = 2)))
  else if e.kind = 2 ∨ e.kind = 3 ∨ e.kind = 4 then (⟨e.kind, e.ino, e.dir, 0, 0, 0, e.name, ⟨#[]⟩⟩, placeB e.dir e.name)
  else if e.kind = 5 then (⟨e.kind, e.ino, e.dir, e.to, 0, 0, e.name, e.other⟩, placeB e.dir e.name && placeB e.to e.other)
  else if e.kind = 6 then (⟨e.kind, e.ino, 0, 0, 0, e.size, ⟨#[]⟩, ⟨#[]⟩⟩, decide (0 ≤ e.size) && decide (e.size ≤ 16384))
  else if e.kind = 7 then (⟨e.kind, e.ino, 0, 0, e.page, e.size, ⟨#[]⟩, ⟨#[]⟩⟩, decide (0 ≤ e.page) && decide (e.page < 64) && decide (e.size ≤ 16384) && decide (e.page * 256 < e.size))
  else (⟨e.kind, e.ino, 0, 0, 0, 0, ⟨#[]⟩, ⟨#[]⟩⟩, decide (e.kind = 8))
def effB (e : Effect) : Bool := (rightS e).2 && numB e.ino && decide ((rightS e).1 = e.shape) && decide (e.data.length = if e.kind = 7 then 256 else 0)
def effC (e : Effect) : Int := if effB e = true then 0 else 92

theorem neq_shape (a b : Shape) (w : World) : (binOp .neq 115 (.agg a.enc) (.agg b.enc)).run Tryz.prog w = .ok (.bool (!decide (a = b))) w := by
  unfold Shape.enc
  simp [go_sem]
  have ti : ∀ (a b : ByteArray), a.toList = b.toList ↔ a = b := fun a b => ⟨fun q => by rw [ByteArray.toList_eq, ByteArray.toList_eq] at q; obtain ⟨⟨x⟩⟩ := a; obtain ⟨⟨y⟩⟩ := b; simpa using q, fun q => q ▸ rfl⟩
  simp only [ti]
  obtain ⟨a1, a2, a3, a4, a5, a6, a7, a8⟩ := a
  obtain ⟨b1, b2, b3, b4, b5, b6, b7, b8⟩ := b
  simp only [Shape.mk.injEq]
  repeat' split
  all_goals simp_all
theorem effect_node (n : Int) (w : World) : Calls Tryz.prog 69 #[.int .i64 n] w fun e w' => e = .returned (.bool (numB n)) ∧ w = w' := by
  refine calls_rx h69 Tryz.func69 rfl Tryz.mixed (by kernel_rfl) Tryz.results69 ?_
  unfold numB
  simp -dsimp [go_sem]
theorem effect_place (d : Int) (s : ByteArray) (w : World) : Calls Tryz.prog 104 #[.int .i64 d, .string s] w fun e w' => e = .returned (.bool (placeB d s)) ∧ w = w' := by
  refine calls_rx h104 Tryz.func104 rfl Tryz.mixed (by kernel_rfl) Tryz.results104 ?_
  unfold placeB
  simp -dsimp [go_sem]
  refine (effect_node d w).mono ?_; rintro _ w1 ⟨rfl, rfl⟩; refine ret_intro ?_
  cases numB d
  · simp -dsimp [go_sem]
  · simp -dsimp [go_sem]
    refine (name_Check s w).mono ?_; rintro _ w1 ⟨rfl, rfl⟩; refine ret_intro ?_
    simp -dsimp [go_sem]
theorem effect_of (e : Effect) (d : Value) (w : World) : Calls Tryz.prog 70 #[.agg (e.enc d).toArray] w fun r w' => r = .returned (.agg e.shape.enc) ∧ Keep w w' := by
  refine calls_rx h70 Tryz.func70 rfl Tryz.mixed (by kernel_rfl) Tryz.results70 ?_
  unfold Effect.enc Effect.shape Shape.enc
  simp -dsimp [go_sem]
  exact ((Keep.refl w).alloc _).alloc _
theorem effect_right (e : Effect) (h : e.ok) (d : Value) (w : World) : Calls Tryz.prog 68 #[.agg (e.enc d).toArray] w fun r w' => r = .returned (.tuple #[.agg (rightS e).1.enc, .bool (rightS e).2]) ∧ Keep w w' := by
  obtain ⟨o1, o2, o3, o4, o5, o6⟩ := h
  refine calls_rx h68 Tryz.func68 rfl Tryz.mixed (by kernel_rfl) Tryz.results68 ?_
  unfold Effect.enc rightS Shape.enc
  by_cases k1 : e.kind = 1
  · rw [if_pos k1]
    simp -dsimp [go_sem, k1]
    refine blankF_intro (w.alloc _) (agree_alloc (agree_alloc (Agree.refl _) _) _) ?_
    simp -dsimp [go_sem, k1]
    (repeat (with_reducible refine And.intro (by (repeat (with_reducible first | exact Agree.refl _ | refine agree_drew ?_ | refine agree_alloc ?_ _))) ?_))
    generalize hW : ((w.alloc _).alloc _).alloc _ = W
    obtain ⟨E0, E1, E2, kW, zW⟩ := alloc3 hW
    clear hW
    refine blankF_intro (holed W (w.heap.size + 1)) (holed_agree (fun _ _ _ => rfl)) ?_
    have D0 := (holed_blk (w := W) (b := w.heap.size + 1) (by omega)).trans E0
    have D2 := (holed_blk (w := W) (b := w.heap.size + 1) (by omega)).trans E2
    have D0c := blk_cell D0; have D0f := blk_free D0; have D0l := blk_lt D0; have E1c := blk_cell E1; have E1f := blk_free E1; have E1l := blk_lt E1; have D2c := blk_cell D2; have D2f := blk_free D2; have D2l := blk_lt D2
    simp -dsimp [go_sem, D0c, D0f, D0l, E1c, E1f, E1l, D2c, D2f, D2l, k1]
    have hA : Agree (holed W (w.heap.size + 1)) W := holed_agree (fun _ _ _ => rfl)
    refine (effect_place e.dir e.name _).mono ?_; rintro _ w1 ⟨rfl, rfl⟩; refine ret_intro ?_
    cases p1 : placeB e.dir e.name
    · skip
      simp -dsimp [go_sem, D0c, D0f, D0l, E1c, E1f, E1l, D2c, D2f, D2l, k1, p1]
      (repeat (with_reducible refine And.intro (by (repeat (with_reducible first | exact hA | refine agree_drew ?_ | refine holed_set ?_ _ _))) ?_))
      first
            | exact Step.keep kW (by (repeat (with_reducible first | exact Step.refl _ _ | refine Step.drew ?_ | refine Step.set ?_ ?_ _)); all_goals exact .inl rfl : Step (fun k => k = w.heap.size + 1) W _) (fun i q => by omega)
            | simp -dsimp [go_sem]
              (repeat (with_reducible refine And.intro (by (repeat (with_reducible first | exact hA | refine agree_drew ?_ | refine holed_set ?_ _ _))) ?_))
              exact Step.keep kW (by (repeat (with_reducible first | exact Step.refl _ _ | refine Step.drew ?_ | refine Step.set ?_ ?_ _)); all_goals exact .inl rfl : Step (fun k => k = w.heap.size + 1) W _) (fun i q => by omega)
    · skip
      simp -dsimp [go_sem, D0c, D0f, D0l, E1c, E1f, E1l, D2c, D2f, D2l, k1, p1]
      (repeat (with_reducible refine And.intro (by (repeat (with_reducible first | exact hA | refine agree_drew ?_ | refine holed_set ?_ _ _))) ?_))
      by_cases q1 : e.page = 1
      · skip
        simp -dsimp [go_sem, D0c, D0f, D0l, E1c, E1f, E1l, D2c, D2f, D2l, k1, p1, q1]
        (repeat (with_reducible refine And.intro (by (repeat (with_reducible first | exact hA | refine agree_drew ?_ | refine holed_set ?_ _ _))) ?_))
        first
              | exact Step.keep kW (by (repeat (with_reducible first | exact Step.refl _ _ | refine Step.drew ?_ | refine Step.set ?_ ?_ _)); all_goals exact .inl rfl : Step (fun k => k = w.heap.size + 1) W _) (fun i q => by omega)
              | simp -dsimp [go_sem]
                (repeat (with_reducible refine And.intro (by (repeat (with_reducible first | exact hA | refine agree_drew ?_ | refine holed_set ?_ _ _))) ?_))
                exact Step.keep kW (by (repeat (with_reducible first | exact Step.refl _ _ | refine Step.drew ?_ | refine Step.set ?_ ?_ _)); all_goals exact .inl rfl : Step (fun k => k = w.heap.size + 1) W _) (fun i q => by omega)
      · skip
        by_cases q2 : e.page = 2
        · skip
          simp -dsimp [go_sem, D0c, D0f, D0l, E1c, E1f, E1l, D2c, D2f, D2l, k1, p1, q1, q2]
          (repeat (with_reducible refine And.intro (by (repeat (with_reducible first | exact hA | refine agree_drew ?_ | refine holed_set ?_ _ _))) ?_))
          first
                | exact Step.keep kW (by (repeat (with_reducible first | exact Step.refl _ _ | refine Step.drew ?_ | refine Step.set ?_ ?_ _)); all_goals exact .inl rfl : Step (fun k => k = w.heap.size + 1) W _) (fun i q => by omega)
                | simp -dsimp [go_sem]
                  (repeat (with_reducible refine And.intro (by (repeat (with_reducible first | exact hA | refine agree_drew ?_ | refine holed_set ?_ _ _))) ?_))
                  exact Step.keep kW (by (repeat (with_reducible first | exact Step.refl _ _ | refine Step.drew ?_ | refine Step.set ?_ ?_ _)); all_goals exact .inl rfl : Step (fun k => k = w.heap.size + 1) W _) (fun i q => by omega)
        · skip
          simp -dsimp [go_sem, D0c, D0f, D0l, E1c, E1f, E1l, D2c, D2f, D2l, k1, p1, q1, q2]
          (repeat (with_reducible refine And.intro (by (repeat (with_reducible first | exact hA | refine agree_drew ?_ | refine holed_set ?_ _ _))) ?_))
          first
                | exact Step.keep kW (by (repeat (with_reducible first | exact Step.refl _ _ | refine Step.drew ?_ | refine Step.set ?_ ?_ _)); all_goals exact .inl rfl : Step (fun k => k = w.heap.size + 1) W _) (fun i q => by omega)
                | simp -dsimp [go_sem]
                  (repeat (with_reducible refine And.intro (by (repeat (with_reducible first | exact hA | refine agree_drew ?_ | refine holed_set ?_ _ _))) ?_))
                  exact Step.keep kW (by (repeat (with_reducible first | exact Step.refl _ _ | refine Step.drew ?_ | refine Step.set ?_ ?_ _)); all_goals exact .inl rfl : Step (fun k => k = w.heap.size + 1) W _) (fun i q => by omega)
  by_cases k2 : e.kind = 2 ∨ e.kind = 3 ∨ e.kind = 4
  · rw [if_neg k1, if_pos k2]
    rcases k2 with k2 | k2 | k2
    · skip
      simp -dsimp [go_sem, k2]
      refine blankF_intro (w.alloc _) (agree_alloc (agree_alloc (Agree.refl _) _) _) ?_
      simp -dsimp [go_sem, k2]
      (repeat (with_reducible refine And.intro (by (repeat (with_reducible first | exact Agree.refl _ | refine agree_drew ?_ | refine agree_alloc ?_ _))) ?_))
      generalize hW : ((w.alloc _).alloc _).alloc _ = W
      obtain ⟨E0, E1, E2, kW, zW⟩ := alloc3 hW
      clear hW
      refine blankF_intro (holed W (w.heap.size + 1)) (holed_agree (fun _ _ _ => rfl)) ?_
      have D0 := (holed_blk (w := W) (b := w.heap.size + 1) (by omega)).trans E0
      have D2 := (holed_blk (w := W) (b := w.heap.size + 1) (by omega)).trans E2
      have D0c := blk_cell D0; have D0f := blk_free D0; have D0l := blk_lt D0; have E1c := blk_cell E1; have E1f := blk_free E1; have E1l := blk_lt E1; have D2c := blk_cell D2; have D2f := blk_free D2; have D2l := blk_lt D2
      simp -dsimp [go_sem, D0c, D0f, D0l, E1c, E1f, E1l, D2c, D2f, D2l, k2]
      have hA : Agree (holed W (w.heap.size + 1)) W := holed_agree (fun _ _ _ => rfl)
      refine (effect_place e.dir e.name _).mono ?_; rintro _ w1 ⟨rfl, rfl⟩; refine ret_intro ?_
      cases p1 : placeB e.dir e.name
      · skip
        simp -dsimp [go_sem, D0c, D0f, D0l, E1c, E1f, E1l, D2c, D2f, D2l, k2, p1]
        (repeat (with_reducible refine And.intro (by (repeat (with_reducible first | exact hA | refine agree_drew ?_ | refine holed_set ?_ _ _))) ?_))
        first
              | exact Step.keep kW (by (repeat (with_reducible first | exact Step.refl _ _ | refine Step.drew ?_ | refine Step.set ?_ ?_ _)); all_goals exact .inl rfl : Step (fun k => k = w.heap.size + 1) W _) (fun i q => by omega)
              | simp -dsimp [go_sem]
                (repeat (with_reducible refine And.intro (by (repeat (with_reducible first | exact hA | refine agree_drew ?_ | refine holed_set ?_ _ _))) ?_))
                exact Step.keep kW (by (repeat (with_reducible first | exact Step.refl _ _ | refine Step.drew ?_ | refine Step.set ?_ ?_ _)); all_goals exact .inl rfl : Step (fun k => k = w.heap.size + 1) W _) (fun i q => by omega)
      · skip
        simp -dsimp [go_sem, D0c, D0f, D0l, E1c, E1f, E1l, D2c, D2f, D2l, k2, p1]
        (repeat (with_reducible refine And.intro (by (repeat (with_reducible first | exact hA | refine agree_drew ?_ | refine holed_set ?_ _ _))) ?_))
        first
              | exact Step.keep kW (by (repeat (with_reducible first | exact Step.refl _ _ | refine Step.drew ?_ | refine Step.set ?_ ?_ _)); all_goals exact .inl rfl : Step (fun k => k = w.heap.size + 1) W _) (fun i q => by omega)
              | simp -dsimp [go_sem]
                (repeat (with_reducible refine And.intro (by (repeat (with_reducible first | exact hA | refine agree_drew ?_ | refine holed_set ?_ _ _))) ?_))
                exact Step.keep kW (by (repeat (with_reducible first | exact Step.refl _ _ | refine Step.drew ?_ | refine Step.set ?_ ?_ _)); all_goals exact .inl rfl : Step (fun k => k = w.heap.size + 1) W _) (fun i q => by omega)
    · skip
      simp -dsimp [go_sem, k2]
      refine blankF_intro (w.alloc _) (agree_alloc (agree_alloc (Agree.refl _) _) _) ?_
      simp -dsimp [go_sem, k2]
      (repeat (with_reducible refine And.intro (by (repeat (with_reducible first | exact Agree.refl _ | refine agree_drew ?_ | refine agree_alloc ?_ _))) ?_))
      generalize hW : ((w.alloc _).alloc _).alloc _ = W
      obtain ⟨E0, E1, E2, kW, zW⟩ := alloc3 hW
      clear hW
      refine blankF_intro (holed W (w.heap.size + 1)) (holed_agree (fun _ _ _ => rfl)) ?_
      have D0 := (holed_blk (w := W) (b := w.heap.size + 1) (by omega)).trans E0
      have D2 := (holed_blk (w := W) (b := w.heap.size + 1) (by omega)).trans E2
      have D0c := blk_cell D0; have D0f := blk_free D0; have D0l := blk_lt D0; have E1c := blk_cell E1; have E1f := blk_free E1; have E1l := blk_lt E1; have D2c := blk_cell D2; have D2f := blk_free D2; have D2l := blk_lt D2
      simp -dsimp [go_sem, D0c, D0f, D0l, E1c, E1f, E1l, D2c, D2f, D2l, k2]
      have hA : Agree (holed W (w.heap.size + 1)) W := holed_agree (fun _ _ _ => rfl)
      refine (effect_place e.dir e.name _).mono ?_; rintro _ w1 ⟨rfl, rfl⟩; refine ret_intro ?_
      cases p1 : placeB e.dir e.name
      · skip
        simp -dsimp [go_sem, D0c, D0f, D0l, E1c, E1f, E1l, D2c, D2f, D2l, k2, p1]
        (repeat (with_reducible refine And.intro (by (repeat (with_reducible first | exact hA | refine agree_drew ?_ | refine holed_set ?_ _ _))) ?_))
        first
              | exact Step.keep kW (by (repeat (with_reducible first | exact Step.refl _ _ | refine Step.drew ?_ | refine Step.set ?_ ?_ _)); all_goals exact .inl rfl : Step (fun k => k = w.heap.size + 1) W _) (fun i q => by omega)
              | simp -dsimp [go_sem]
                (repeat (with_reducible refine And.intro (by (repeat (with_reducible first | exact hA | refine agree_drew ?_ | refine holed_set ?_ _ _))) ?_))
                exact Step.keep kW (by (repeat (with_reducible first | exact Step.refl _ _ | refine Step.drew ?_ | refine Step.set ?_ ?_ _)); all_goals exact .inl rfl : Step (fun k => k = w.heap.size + 1) W _) (fun i q => by omega)
      · skip
        simp -dsimp [go_sem, D0c, D0f, D0l, E1c, E1f, E1l, D2c, D2f, D2l, k2, p1]
        (repeat (with_reducible refine And.intro (by (repeat (with_reducible first | exact hA | refine agree_drew ?_ | refine holed_set ?_ _ _))) ?_))
        first
              | exact Step.keep kW (by (repeat (with_reducible first | exact Step.refl _ _ | refine Step.drew ?_ | refine Step.set ?_ ?_ _)); all_goals exact .inl rfl : Step (fun k => k = w.heap.size + 1) W _) (fun i q => by omega)
              | simp -dsimp [go_sem]
                (repeat (with_reducible refine And.intro (by (repeat (with_reducible first | exact hA | refine agree_drew ?_ | refine holed_set ?_ _ _))) ?_))
                exact Step.keep kW (by (repeat (with_reducible first | exact Step.refl _ _ | refine Step.drew ?_ | refine Step.set ?_ ?_ _)); all_goals exact .inl rfl : Step (fun k => k = w.heap.size + 1) W _) (fun i q => by omega)
    · skip
      simp -dsimp [go_sem, k2]
      refine blankF_intro (w.alloc _) (agree_alloc (agree_alloc (Agree.refl _) _) _) ?_
      simp -dsimp [go_sem, k2]
      (repeat (with_reducible refine And.intro (by (repeat (with_reducible first | exact Agree.refl _ | refine agree_drew ?_ | refine agree_alloc ?_ _))) ?_))
      generalize hW : ((w.alloc _).alloc _).alloc _ = W
      obtain ⟨E0, E1, E2, kW, zW⟩ := alloc3 hW
      clear hW
      refine blankF_intro (holed W (w.heap.size + 1)) (holed_agree (fun _ _ _ => rfl)) ?_
      have D0 := (holed_blk (w := W) (b := w.heap.size + 1) (by omega)).trans E0
      have D2 := (holed_blk (w := W) (b := w.heap.size + 1) (by omega)).trans E2
      have D0c := blk_cell D0; have D0f := blk_free D0; have D0l := blk_lt D0; have E1c := blk_cell E1; have E1f := blk_free E1; have E1l := blk_lt E1; have D2c := blk_cell D2; have D2f := blk_free D2; have D2l := blk_lt D2
      simp -dsimp [go_sem, D0c, D0f, D0l, E1c, E1f, E1l, D2c, D2f, D2l, k2]
      have hA : Agree (holed W (w.heap.size + 1)) W := holed_agree (fun _ _ _ => rfl)
      refine (effect_place e.dir e.name _).mono ?_; rintro _ w1 ⟨rfl, rfl⟩; refine ret_intro ?_
      cases p1 : placeB e.dir e.name
      · skip
        simp -dsimp [go_sem, D0c, D0f, D0l, E1c, E1f, E1l, D2c, D2f, D2l, k2, p1]
        (repeat (with_reducible refine And.intro (by (repeat (with_reducible first | exact hA | refine agree_drew ?_ | refine holed_set ?_ _ _))) ?_))
        first
              | exact Step.keep kW (by (repeat (with_reducible first | exact Step.refl _ _ | refine Step.drew ?_ | refine Step.set ?_ ?_ _)); all_goals exact .inl rfl : Step (fun k => k = w.heap.size + 1) W _) (fun i q => by omega)
              | simp -dsimp [go_sem]
                (repeat (with_reducible refine And.intro (by (repeat (with_reducible first | exact hA | refine agree_drew ?_ | refine holed_set ?_ _ _))) ?_))
                exact Step.keep kW (by (repeat (with_reducible first | exact Step.refl _ _ | refine Step.drew ?_ | refine Step.set ?_ ?_ _)); all_goals exact .inl rfl : Step (fun k => k = w.heap.size + 1) W _) (fun i q => by omega)
      · skip
        simp -dsimp [go_sem, D0c, D0f, D0l, E1c, E1f, E1l, D2c, D2f, D2l, k2, p1]
        (repeat (with_reducible refine And.intro (by (repeat (with_reducible first | exact hA | refine agree_drew ?_ | refine holed_set ?_ _ _))) ?_))
        first
              | exact Step.keep kW (by (repeat (with_reducible first | exact Step.refl _ _ | refine Step.drew ?_ | refine Step.set ?_ ?_ _)); all_goals exact .inl rfl : Step (fun k => k = w.heap.size + 1) W _) (fun i q => by omega)
              | simp -dsimp [go_sem]
                (repeat (with_reducible refine And.intro (by (repeat (with_reducible first | exact hA | refine agree_drew ?_ | refine holed_set ?_ _ _))) ?_))
                exact Step.keep kW (by (repeat (with_reducible first | exact Step.refl _ _ | refine Step.drew ?_ | refine Step.set ?_ ?_ _)); all_goals exact .inl rfl : Step (fun k => k = w.heap.size + 1) W _) (fun i q => by omega)
  rw [if_neg k1, if_neg k2]
  simp only [not_or] at k2
  obtain ⟨k2, k3, k4⟩ := k2
  by_cases k5 : e.kind = 5
  · rw [if_pos k5]
    simp -dsimp [go_sem, k5]
    refine blankF_intro (w.alloc _) (agree_alloc (agree_alloc (Agree.refl _) _) _) ?_
    simp -dsimp [go_sem, k5]
    (repeat (with_reducible refine And.intro (by (repeat (with_reducible first | exact Agree.refl _ | refine agree_drew ?_ | refine agree_alloc ?_ _))) ?_))
    generalize hW : ((w.alloc _).alloc _).alloc _ = W
    obtain ⟨E0, E1, E2, kW, zW⟩ := alloc3 hW
    clear hW
    refine blankF_intro (holed W (w.heap.size + 1)) (holed_agree (fun _ _ _ => rfl)) ?_
    have D0 := (holed_blk (w := W) (b := w.heap.size + 1) (by omega)).trans E0
    have D2 := (holed_blk (w := W) (b := w.heap.size + 1) (by omega)).trans E2
    have D0c := blk_cell D0; have D0f := blk_free D0; have D0l := blk_lt D0; have E1c := blk_cell E1; have E1f := blk_free E1; have E1l := blk_lt E1; have D2c := blk_cell D2; have D2f := blk_free D2; have D2l := blk_lt D2
    simp -dsimp [go_sem, D0c, D0f, D0l, E1c, E1f, E1l, D2c, D2f, D2l, k5]
    have hA : Agree (holed W (w.heap.size + 1)) W := holed_agree (fun _ _ _ => rfl)
    refine (effect_place e.dir e.name _).mono ?_; rintro _ w1 ⟨rfl, rfl⟩; refine ret_intro ?_
    cases p1 : placeB e.dir e.name
    · skip
      simp -dsimp [go_sem, D0c, D0f, D0l, E1c, E1f, E1l, D2c, D2f, D2l, k5, p1]
      (repeat (with_reducible refine And.intro (by (repeat (with_reducible first | exact hA | refine agree_drew ?_ | refine holed_set ?_ _ _))) ?_))
      first
            | exact Step.keep kW (by (repeat (with_reducible first | exact Step.refl _ _ | refine Step.drew ?_ | refine Step.set ?_ ?_ _)); all_goals exact .inl rfl : Step (fun k => k = w.heap.size + 1) W _) (fun i q => by omega)
            | simp -dsimp [go_sem]
              (repeat (with_reducible refine And.intro (by (repeat (with_reducible first | exact hA | refine agree_drew ?_ | refine holed_set ?_ _ _))) ?_))
              exact Step.keep kW (by (repeat (with_reducible first | exact Step.refl _ _ | refine Step.drew ?_ | refine Step.set ?_ ?_ _)); all_goals exact .inl rfl : Step (fun k => k = w.heap.size + 1) W _) (fun i q => by omega)
    · skip
      simp -dsimp [go_sem, D0c, D0f, D0l, E1c, E1f, E1l, D2c, D2f, D2l, k5, p1]
      (repeat (with_reducible refine And.intro (by (repeat (with_reducible first | exact hA | refine agree_drew ?_ | refine holed_set ?_ _ _))) ?_))
      refine (effect_place e.to e.other _).mono ?_; rintro _ w1 ⟨rfl, rfl⟩; refine ret_intro ?_
      cases p2 : placeB e.to e.other
      · skip
        simp -dsimp [go_sem, D0c, D0f, D0l, E1c, E1f, E1l, D2c, D2f, D2l, k5, p1, p2]
        (repeat (with_reducible refine And.intro (by (repeat (with_reducible first | exact hA | refine agree_drew ?_ | refine holed_set ?_ _ _))) ?_))
        first
              | exact Step.keep kW (by (repeat (with_reducible first | exact Step.refl _ _ | refine Step.drew ?_ | refine Step.set ?_ ?_ _)); all_goals exact .inl rfl : Step (fun k => k = w.heap.size + 1) W _) (fun i q => by omega)
              | simp -dsimp [go_sem]
                (repeat (with_reducible refine And.intro (by (repeat (with_reducible first | exact hA | refine agree_drew ?_ | refine holed_set ?_ _ _))) ?_))
                exact Step.keep kW (by (repeat (with_reducible first | exact Step.refl _ _ | refine Step.drew ?_ | refine Step.set ?_ ?_ _)); all_goals exact .inl rfl : Step (fun k => k = w.heap.size + 1) W _) (fun i q => by omega)
      · skip
        simp -dsimp [go_sem, D0c, D0f, D0l, E1c, E1f, E1l, D2c, D2f, D2l, k5, p1, p2]
        (repeat (with_reducible refine And.intro (by (repeat (with_reducible first | exact hA | refine agree_drew ?_ | refine holed_set ?_ _ _))) ?_))
        first
              | exact Step.keep kW (by (repeat (with_reducible first | exact Step.refl _ _ | refine Step.drew ?_ | refine Step.set ?_ ?_ _)); all_goals exact .inl rfl : Step (fun k => k = w.heap.size + 1) W _) (fun i q => by omega)
              | simp -dsimp [go_sem]
                (repeat (with_reducible refine And.intro (by (repeat (with_reducible first | exact hA | refine agree_drew ?_ | refine holed_set ?_ _ _))) ?_))
                exact Step.keep kW (by (repeat (with_reducible first | exact Step.refl _ _ | refine Step.drew ?_ | refine Step.set ?_ ?_ _)); all_goals exact .inl rfl : Step (fun k => k = w.heap.size + 1) W _) (fun i q => by omega)
  rw [if_neg k5]
  by_cases k6 : e.kind = 6
  · rw [if_pos k6]
    simp -dsimp [go_sem, k6]
    generalize hW : ((w.alloc _).alloc _).alloc _ = W
    obtain ⟨E0, E1, E2, kW, zW⟩ := alloc3 hW
    clear hW
    refine blankF_intro (holed W (w.heap.size + 1)) (holed_agree (fun _ _ _ => rfl)) ?_
    have D0 := (holed_blk (w := W) (b := w.heap.size + 1) (by omega)).trans E0
    have D2 := (holed_blk (w := W) (b := w.heap.size + 1) (by omega)).trans E2
    have D0c := blk_cell D0; have D0f := blk_free D0; have D0l := blk_lt D0; have E1c := blk_cell E1; have E1f := blk_free E1; have E1l := blk_lt E1; have D2c := blk_cell D2; have D2f := blk_free D2; have D2l := blk_lt D2
    simp -dsimp [go_sem, D0c, D0f, D0l, E1c, E1f, E1l, D2c, D2f, D2l, k6]
    have hA : Agree (holed W (w.heap.size + 1)) W := holed_agree (fun _ _ _ => rfl)
    by_cases g0 : 0 ≤ e.size
    · skip
      by_cases g1 : e.size ≤ 16384
      · skip
        simp -dsimp [go_sem, D0c, D0f, D0l, E1c, E1f, E1l, D2c, D2f, D2l, k6, g0, g1]
        (repeat (with_reducible refine And.intro (by (repeat (with_reducible first | exact hA | refine agree_drew ?_ | refine holed_set ?_ _ _))) ?_))
        first
              | exact Step.keep kW (by (repeat (with_reducible first | exact Step.refl _ _ | refine Step.drew ?_ | refine Step.set ?_ ?_ _)); all_goals exact .inl rfl : Step (fun k => k = w.heap.size + 1) W _) (fun i q => by omega)
              | simp -dsimp [go_sem]
                (repeat (with_reducible refine And.intro (by (repeat (with_reducible first | exact hA | refine agree_drew ?_ | refine holed_set ?_ _ _))) ?_))
                exact Step.keep kW (by (repeat (with_reducible first | exact Step.refl _ _ | refine Step.drew ?_ | refine Step.set ?_ ?_ _)); all_goals exact .inl rfl : Step (fun k => k = w.heap.size + 1) W _) (fun i q => by omega)
      · skip
        simp -dsimp [go_sem, D0c, D0f, D0l, E1c, E1f, E1l, D2c, D2f, D2l, k6, g0, g1]
        (repeat (with_reducible refine And.intro (by (repeat (with_reducible first | exact hA | refine agree_drew ?_ | refine holed_set ?_ _ _))) ?_))
        first
              | exact Step.keep kW (by (repeat (with_reducible first | exact Step.refl _ _ | refine Step.drew ?_ | refine Step.set ?_ ?_ _)); all_goals exact .inl rfl : Step (fun k => k = w.heap.size + 1) W _) (fun i q => by omega)
              | simp -dsimp [go_sem]
                (repeat (with_reducible refine And.intro (by (repeat (with_reducible first | exact hA | refine agree_drew ?_ | refine holed_set ?_ _ _))) ?_))
                exact Step.keep kW (by (repeat (with_reducible first | exact Step.refl _ _ | refine Step.drew ?_ | refine Step.set ?_ ?_ _)); all_goals exact .inl rfl : Step (fun k => k = w.heap.size + 1) W _) (fun i q => by omega)
    · skip
      simp -dsimp [go_sem, D0c, D0f, D0l, E1c, E1f, E1l, D2c, D2f, D2l, k6, g0]
      (repeat (with_reducible refine And.intro (by (repeat (with_reducible first | exact hA | refine agree_drew ?_ | refine holed_set ?_ _ _))) ?_))
      first
            | exact Step.keep kW (by (repeat (with_reducible first | exact Step.refl _ _ | refine Step.drew ?_ | refine Step.set ?_ ?_ _)); all_goals exact .inl rfl : Step (fun k => k = w.heap.size + 1) W _) (fun i q => by omega)
            | simp -dsimp [go_sem]
              (repeat (with_reducible refine And.intro (by (repeat (with_reducible first | exact hA | refine agree_drew ?_ | refine holed_set ?_ _ _))) ?_))
              exact Step.keep kW (by (repeat (with_reducible first | exact Step.refl _ _ | refine Step.drew ?_ | refine Step.set ?_ ?_ _)); all_goals exact .inl rfl : Step (fun k => k = w.heap.size + 1) W _) (fun i q => by omega)
  rw [if_neg k6]
  by_cases k7 : e.kind = 7
  · rw [if_pos k7]
    simp -dsimp [go_sem, k7]
    refine blankF_intro (w.alloc _) (agree_alloc (agree_alloc (Agree.refl _) _) _) ?_
    simp -dsimp [go_sem, k7]
    (repeat (with_reducible refine And.intro (by (repeat (with_reducible first | exact Agree.refl _ | refine agree_drew ?_ | refine agree_alloc ?_ _))) ?_))
    generalize hW : ((w.alloc _).alloc _).alloc _ = W
    obtain ⟨E0, E1, E2, kW, zW⟩ := alloc3 hW
    clear hW
    refine blankF_intro (holed W (w.heap.size + 1)) (holed_agree (fun _ _ _ => rfl)) ?_
    have D0 := (holed_blk (w := W) (b := w.heap.size + 1) (by omega)).trans E0
    have D2 := (holed_blk (w := W) (b := w.heap.size + 1) (by omega)).trans E2
    have D0c := blk_cell D0; have D0f := blk_free D0; have D0l := blk_lt D0; have E1c := blk_cell E1; have E1f := blk_free E1; have E1l := blk_lt E1; have D2c := blk_cell D2; have D2f := blk_free D2; have D2l := blk_lt D2
    simp -dsimp [go_sem, D0c, D0f, D0l, E1c, E1f, E1l, D2c, D2f, D2l, k7]
    have hA : Agree (holed W (w.heap.size + 1)) W := holed_agree (fun _ _ _ => rfl)
    by_cases g0 : 0 ≤ e.page
    · skip
      by_cases g1 : e.page < 64
      · skip
        have ew : IntKind.i64.wrap (e.page * 256) = e.page * 256 := IntWalk.i64_in _ (by omega)
        by_cases g2 : e.size ≤ 16384
        · skip
          by_cases g3 : e.page * 256 < e.size
          · skip
            simp -dsimp [go_sem, D0c, D0f, D0l, E1c, E1f, E1l, D2c, D2f, D2l, k7, g0, g1, ew, g2, g3]
            (repeat (with_reducible refine And.intro (by (repeat (with_reducible first | exact hA | refine agree_drew ?_ | refine holed_set ?_ _ _))) ?_))
            first
                  | exact Step.keep kW (by (repeat (with_reducible first | exact Step.refl _ _ | refine Step.drew ?_ | refine Step.set ?_ ?_ _)); all_goals exact .inl rfl : Step (fun k => k = w.heap.size + 1) W _) (fun i q => by omega)
                  | simp -dsimp [go_sem]
                    (repeat (with_reducible refine And.intro (by (repeat (with_reducible first | exact hA | refine agree_drew ?_ | refine holed_set ?_ _ _))) ?_))
                    exact Step.keep kW (by (repeat (with_reducible first | exact Step.refl _ _ | refine Step.drew ?_ | refine Step.set ?_ ?_ _)); all_goals exact .inl rfl : Step (fun k => k = w.heap.size + 1) W _) (fun i q => by omega)
          · skip
            simp -dsimp [go_sem, D0c, D0f, D0l, E1c, E1f, E1l, D2c, D2f, D2l, k7, g0, g1, ew, g2, g3]
            (repeat (with_reducible refine And.intro (by (repeat (with_reducible first | exact hA | refine agree_drew ?_ | refine holed_set ?_ _ _))) ?_))
            first
                  | exact Step.keep kW (by (repeat (with_reducible first | exact Step.refl _ _ | refine Step.drew ?_ | refine Step.set ?_ ?_ _)); all_goals exact .inl rfl : Step (fun k => k = w.heap.size + 1) W _) (fun i q => by omega)
                  | simp -dsimp [go_sem]
                    (repeat (with_reducible refine And.intro (by (repeat (with_reducible first | exact hA | refine agree_drew ?_ | refine holed_set ?_ _ _))) ?_))
                    exact Step.keep kW (by (repeat (with_reducible first | exact Step.refl _ _ | refine Step.drew ?_ | refine Step.set ?_ ?_ _)); all_goals exact .inl rfl : Step (fun k => k = w.heap.size + 1) W _) (fun i q => by omega)
        · skip
          simp -dsimp [go_sem, D0c, D0f, D0l, E1c, E1f, E1l, D2c, D2f, D2l, k7, g0, g1, ew, g2]
          (repeat (with_reducible refine And.intro (by (repeat (with_reducible first | exact hA | refine agree_drew ?_ | refine holed_set ?_ _ _))) ?_))
          first
                | exact Step.keep kW (by (repeat (with_reducible first | exact Step.refl _ _ | refine Step.drew ?_ | refine Step.set ?_ ?_ _)); all_goals exact .inl rfl : Step (fun k => k = w.heap.size + 1) W _) (fun i q => by omega)
                | simp -dsimp [go_sem]
                  (repeat (with_reducible refine And.intro (by (repeat (with_reducible first | exact hA | refine agree_drew ?_ | refine holed_set ?_ _ _))) ?_))
                  exact Step.keep kW (by (repeat (with_reducible first | exact Step.refl _ _ | refine Step.drew ?_ | refine Step.set ?_ ?_ _)); all_goals exact .inl rfl : Step (fun k => k = w.heap.size + 1) W _) (fun i q => by omega)
      · skip
        simp -dsimp [go_sem, D0c, D0f, D0l, E1c, E1f, E1l, D2c, D2f, D2l, k7, g0, g1]
        (repeat (with_reducible refine And.intro (by (repeat (with_reducible first | exact hA | refine agree_drew ?_ | refine holed_set ?_ _ _))) ?_))
        first
              | exact Step.keep kW (by (repeat (with_reducible first | exact Step.refl _ _ | refine Step.drew ?_ | refine Step.set ?_ ?_ _)); all_goals exact .inl rfl : Step (fun k => k = w.heap.size + 1) W _) (fun i q => by omega)
              | simp -dsimp [go_sem]
                (repeat (with_reducible refine And.intro (by (repeat (with_reducible first | exact hA | refine agree_drew ?_ | refine holed_set ?_ _ _))) ?_))
                exact Step.keep kW (by (repeat (with_reducible first | exact Step.refl _ _ | refine Step.drew ?_ | refine Step.set ?_ ?_ _)); all_goals exact .inl rfl : Step (fun k => k = w.heap.size + 1) W _) (fun i q => by omega)
    · skip
      simp -dsimp [go_sem, D0c, D0f, D0l, E1c, E1f, E1l, D2c, D2f, D2l, k7, g0]
      (repeat (with_reducible refine And.intro (by (repeat (with_reducible first | exact hA | refine agree_drew ?_ | refine holed_set ?_ _ _))) ?_))
      first
            | exact Step.keep kW (by (repeat (with_reducible first | exact Step.refl _ _ | refine Step.drew ?_ | refine Step.set ?_ ?_ _)); all_goals exact .inl rfl : Step (fun k => k = w.heap.size + 1) W _) (fun i q => by omega)
            | simp -dsimp [go_sem]
              (repeat (with_reducible refine And.intro (by (repeat (with_reducible first | exact hA | refine agree_drew ?_ | refine holed_set ?_ _ _))) ?_))
              exact Step.keep kW (by (repeat (with_reducible first | exact Step.refl _ _ | refine Step.drew ?_ | refine Step.set ?_ ?_ _)); all_goals exact .inl rfl : Step (fun k => k = w.heap.size + 1) W _) (fun i q => by omega)
  rw [if_neg k7]
  by_cases k8 : e.kind = 8
  · simp -dsimp [go_sem, k8]
    exact (((((Keep.refl w).alloc _).alloc _).alloc _))
  simp -dsimp [go_sem, k1, k2, k3, k4, k5, k6, k7, k8]
  exact (((Keep.refl w).alloc _).alloc _).alloc _
end Go.Proofs.YtdfjfagljngciaaGreat

set_option linter.all false
set_option maxRecDepth 100000
set_option maxHeartbeats 4000000
namespace Go.Proofs.YtdfjfagljngciaaGreat
open Go.RowKit Rx

theorem alloc1 {w W : World} {A : Obj} (h : w.alloc A = W) : W.heap[w.heap.size]? = some A ∧ Keep w W ∧ W.heap.size = w.heap.size + 1 := by
  subst h
  exact ⟨heap_alloc_new w A, (Keep.refl w).alloc _, by simp⟩
theorem effect_Check (e : Effect) (h : e.ok) (a : Option Addr) (c : Nat) (w : World) : Calls Tryz.prog 39 #[.agg (e.enc (.slice a e.data.length c)).toArray] w fun r w' => r = .returned (.int .i64 (effC e)) ∧ Keep w w' := by
  refine calls_rx h39 Tryz.func39 rfl Tryz.mixed (by kernel_rfl) Tryz.results39 ?_
  unfold Effect.enc
  simp -dsimp [go_sem]
  generalize hW : w.alloc _ = W
  obtain ⟨E0, k0, z0⟩ := alloc1 hW
  clear hW
  refine (effect_right e h (.slice a e.data.length c) W).mono ?_; rintro _ w1 ⟨rfl, k1⟩; refine ret_intro ?_
  unfold effC effB
  have hq := fun w => neq_shape (rightS e).1 e.shape w
  generalize rightS e = R at hq ⊢
  obtain ⟨S, b⟩ := R
  replace E0 := Step.blk k1 E0 (fun q => q)
  have E0c := blk_cell E0; have E0f := blk_free E0; have E0l := blk_lt E0
  simp only at hq ⊢
  unfold Shape.enc at hq ⊢
  simp -dsimp [go_sem, E0c, E0f, E0l]
  generalize hX : w1.alloc _ = W2
  obtain ⟨E1, k2, z2⟩ := alloc1 hX
  clear hX
  have kk := Keep.trans (Keep.trans k0 k1) k2
  replace E0 := Step.blk k2 E0 (fun q => q)
  clear E0c E0f E0l
  have E0c := blk_cell E0; have E0f := blk_free E0; have E0l := blk_lt E0; have E1c := blk_cell E1; have E1f := blk_free E1; have E1l := blk_lt E1
  cases b
  · by_cases k7 : e.kind = 7
    · simp -dsimp [go_sem, E0c, E0f, E0l, E1c, E1f, E1l, k7]
      (repeat (with_reducible refine And.intro (by (repeat (with_reducible first | exact Agree.refl _ | refine agree_drew ?_ | refine agree_alloc ?_ _))) ?_))
      first | exact kk.drew | exact kk.drew.drew
    · simp -dsimp [go_sem, E0c, E0f, E0l, E1c, E1f, E1l, k7]
      (repeat (with_reducible refine And.intro (by (repeat (with_reducible first | exact Agree.refl _ | refine agree_drew ?_ | refine agree_alloc ?_ _))) ?_))
      first | exact kk.drew | exact kk.drew.drew
  by_cases k7 : e.kind = 7
  · skip
    simp -dsimp [go_sem, E0c, E0f, E0l, E1c, E1f, E1l, k7]
    refine (effect_node e.ino _).mono ?_; rintro _ w2 ⟨rfl, rfl⟩; refine ret_intro ?_
    cases hn : numB e.ino
    · simp -dsimp [go_sem, E0c, E0f, E0l, E1c, E1f, E1l, k7]
      (repeat (with_reducible refine And.intro (by (repeat (with_reducible first | exact Agree.refl _ | refine agree_drew ?_ | refine agree_alloc ?_ _))) ?_))
      first | exact kk.drew | exact kk.drew.drew
    simp -dsimp [go_sem, E0c, E0f, E0l, E1c, E1f, E1l, k7]
    (repeat (with_reducible refine And.intro (by (repeat (with_reducible first | exact Agree.refl _ | refine agree_drew ?_ | refine agree_alloc ?_ _))) ?_))
    have hof := effect_of e (.slice a e.data.length c) W2.drew
    unfold Effect.enc at hof
    rw [k7] at hof
    refine hof.mono ?_; rintro _ w2 ⟨rfl, k3⟩; refine ret_intro ?_
    have k23 : Keep W2 w2 := Keep.trans (keep_drew W2) k3
    have F0 := k23.blk E0 (fun q => q)
    have F1 := k23.blk E1 (fun q => q)
    have F0c := blk_cell F0; have F0f := blk_free F0; have F0l := blk_lt F0; have F1c := blk_cell F1; have F1f := blk_free F1; have F1l := blk_lt F1
    have kw := Keep.trans kk k23
    unfold Shape.enc
    cases hS : decide (S = e.shape)
    · rw [hS] at hq
      simp -dsimp [go_sem, E0c, E0f, E0l, E1c, E1f, E1l, F0c, F0f, F0l, F1c, F1f, F1l, k7, hq]
      exact ⟨Keep.agree k23 (Agree.refl _), kw⟩
    rw [hS] at hq
    by_cases hd : e.data.length = 256
    rotate_left
    · have hd2 : ¬ (e.data.length : Int) = 256 := by omega
      simp -dsimp [go_sem, E0c, E0f, E0l, E1c, E1f, E1l, F0c, F0f, F0l, F1c, F1f, F1l, k7, hq, hd, hd2]
      exact ⟨Keep.agree k23 (Agree.refl _), kw⟩
    · simp -dsimp [go_sem, E0c, E0f, E0l, E1c, E1f, E1l, F0c, F0f, F0l, F1c, F1f, F1l, k7, hq, hd]
      exact ⟨Keep.agree k23 (Agree.refl _), kw⟩
  · skip
    simp -dsimp [go_sem, E0c, E0f, E0l, E1c, E1f, E1l, k7]
    refine (effect_node e.ino _).mono ?_; rintro _ w2 ⟨rfl, rfl⟩; refine ret_intro ?_
    cases hn : numB e.ino
    · simp -dsimp [go_sem, E0c, E0f, E0l, E1c, E1f, E1l, k7]
      (repeat (with_reducible refine And.intro (by (repeat (with_reducible first | exact Agree.refl _ | refine agree_drew ?_ | refine agree_alloc ?_ _))) ?_))
      first | exact kk.drew | exact kk.drew.drew
    simp -dsimp [go_sem, E0c, E0f, E0l, E1c, E1f, E1l, k7]
    (repeat (with_reducible refine And.intro (by (repeat (with_reducible first | exact Agree.refl _ | refine agree_drew ?_ | refine agree_alloc ?_ _))) ?_))
    have hof := effect_of e (.slice a e.data.length c) W2.drew
    unfold Effect.enc at hof
    refine hof.mono ?_; rintro _ w2 ⟨rfl, k3⟩; refine ret_intro ?_
    have k23 : Keep W2 w2 := Keep.trans (keep_drew W2) k3
    have F0 := k23.blk E0 (fun q => q)
    have F1 := k23.blk E1 (fun q => q)
    have F0c := blk_cell F0; have F0f := blk_free F0; have F0l := blk_lt F0; have F1c := blk_cell F1; have F1f := blk_free F1; have F1l := blk_lt F1
    have kw := Keep.trans kk k23
    unfold Shape.enc
    cases hS : decide (S = e.shape)
    · rw [hS] at hq
      simp -dsimp [go_sem, E0c, E0f, E0l, E1c, E1f, E1l, F0c, F0f, F0l, F1c, F1f, F1l, k7, hq]
      exact ⟨Keep.agree k23 (Agree.refl _), kw⟩
    rw [hS] at hq
    by_cases hd : e.data.length = 0
    · simp -dsimp [go_sem, E0c, E0f, E0l, E1c, E1f, E1l, F0c, F0f, F0l, F1c, F1f, F1l, k7, hq, hd]
      exact ⟨Keep.agree k23 (Agree.refl _), kw⟩
    · simp -dsimp [go_sem, E0c, E0f, E0l, E1c, E1f, E1l, F0c, F0f, F0l, F1c, F1f, F1l, k7, hq, hd]
      exact ⟨Keep.agree k23 (Agree.refl _), kw⟩
theorem ref_number (n : Int) (w : World) : Calls Tryz.prog 88 #[.int .i64 n] w fun e w' => e = .returned (.bool (numB n)) ∧ w = w' := by
  refine calls_rx h88 Tryz.func88 rfl Tryz.mixed (by kernel_rfl) Tryz.results88 ?_
  unfold numB
  simp -dsimp [go_sem]
def refB (e : Effect) : Bool :=
  (if e.kind = 1 then placeB e.dir e.name && (decide (e.to = 0) && decide (e.other = ⟨#[]⟩)) && decide (e.data.length = 0) && (decide (e.page = 1) || decide (e.page = 2)) && decide (e.size = 0)
   else if e.kind = 2 ∨ e.kind = 3 ∨ e.kind = 4 then placeB e.dir e.name && (decide (e.to = 0) && decide (e.other = ⟨#[]⟩)) && decide (e.data.length = 0) && decide (e.page = 0) && decide (e.size = 0)
   else if e.kind = 5 then placeB e.dir e.name && placeB e.to e.other && decide (e.data.length = 0) && decide (e.page = 0) && decide (e.size = 0)
   else if e.kind = 6 then (decide (e.dir = 0) && decide (e.name = ⟨#[]⟩)) && (decide (e.to = 0) && decide (e.other = ⟨#[]⟩)) && decide (e.data.length = 0) && decide (e.page = 0) && decide (0 ≤ e.size) && decide (e.size ≤ 16384)
   else if e.kind = 7 then (decide (e.dir = 0) && decide (e.name = ⟨#[]⟩)) && (decide (e.to = 0) && decide (e.other = ⟨#[]⟩)) && decide (e.data.length = 256) && decide (0 ≤ e.page) && decide (e.page ≤ 63) && decide (e.size ≤ 16384) && decide (e.page * 256 < e.size)
   else if e.kind = 8 then (decide (e.dir = 0) && decide (e.name = ⟨#[]⟩)) && (decide (e.to = 0) && decide (e.other = ⟨#[]⟩)) && decide (e.data.length = 0) && decide (e.page = 0) && decide (e.size = 0)
   else false) && numB e.ino
theorem refB_eq (e : Effect) : refB e = effB e := by
  obtain ⟨kind, ino, dir, to, page, size, name, other, data⟩ := e
  unfold refB effB rightS Effect.shape
  simp only
  generalize placeB dir name = p1
  generalize placeB to other = p2
  generalize numB ino = p3
  repeat' split
  all_goals (rw [Bool.eq_iff_iff]; simp only [Shape.mk.injEq, Bool.and_eq_true, Bool.or_eq_true, decide_eq_true_eq, Bool.false_and, Bool.and_false])
  all_goals grind
theorem ref_Check (e : Effect) (h : e.ok) (hn : e.name.size < 2 ^ 62) (ho : e.other.size < 2 ^ 62) (a : Option Addr) (c : Nat) (w : World) : Calls Tryz.prog 54 #[.agg (e.enc (.slice a e.data.length c)).toArray] w fun r w' => r = .returned (.int .i64 (effC e)) ∧ Keep w w' := by
  unfold effC
  rw [← refB_eq]
  refine calls_rx h54 Tryz.func54 rfl Tryz.mixed (by kernel_rfl) Tryz.results54 ?_
  unfold Effect.enc
  simp -dsimp [go_sem]
  generalize hW : w.alloc _ = W
  obtain ⟨E0, k0, z0⟩ := alloc1 hW
  clear hW
  have E0c := blk_cell E0; have E0f := blk_free E0; have E0l := blk_lt E0
  refine join_intro (σ := Unit) (fun _ => [.bool (placeB e.dir e.name)]) (fun _ w' => W = w') (by simp -dsimp [go_sem]; rfl) ?_ ?_
  · simp -dsimp [go_sem, E0c, E0f, E0l]
    refine (ref_number e.dir _).mono ?_; rintro _ w1 ⟨rfl, rfl⟩; refine ret_intro ?_
    unfold placeB
    cases p1 : numB e.dir
    · simp -dsimp [go_sem, E0c, E0f, E0l]
      exact meet_intro () (by simp -dsimp [go_sem]) (by simp -dsimp [go_sem]) rfl
    · simp -dsimp [go_sem, E0c, E0f, E0l]
      refine (ref_Name e.name hn _).mono ?_; rintro _ w1 ⟨rfl, rfl⟩; refine ret_intro ?_
      simp -dsimp [go_sem, E0c, E0f, E0l]
      exact meet_intro () (by simp -dsimp [go_sem]) (by simp -dsimp [go_sem]) rfl
  rintro _ _ rfl
  generalize hp : placeB e.dir e.name = p
  simp -dsimp [go_sem, E0c, E0f, E0l]
  refine join_intro (σ := Unit) (fun _ => [.bool (decide (e.dir = 0) && decide (e.name = ⟨#[]⟩))]) (fun _ w' => W = w') (by simp -dsimp [go_sem]; rfl) ?_ ?_
  · by_cases g : e.dir = 0
    · simp -dsimp [go_sem, E0c, E0f, E0l, g]
      exact meet_intro () (by simp -dsimp [go_sem]) (by simp -dsimp [go_sem]) rfl
    · simp -dsimp [go_sem, E0c, E0f, E0l, g]
      exact meet_intro () (by simp -dsimp [go_sem]) (by simp -dsimp [go_sem]) rfl
  rintro _ _ rfl
  generalize hnp : (decide (e.dir = 0) && decide (e.name = ⟨#[]⟩)) = np
  simp -dsimp [go_sem, E0c, E0f, E0l]
  refine join_intro (σ := Unit) (fun _ => [.bool (decide (e.to = 0) && decide (e.other = ⟨#[]⟩))]) (fun _ w' => W = w') (by simp -dsimp [go_sem]; rfl) ?_ ?_
  · by_cases g : e.to = 0
    · simp -dsimp [go_sem, E0c, E0f, E0l, g]
      exact meet_intro () (by simp -dsimp [go_sem]) (by simp -dsimp [go_sem]) rfl
    · simp -dsimp [go_sem, E0c, E0f, E0l, g]
      exact meet_intro () (by simp -dsimp [go_sem]) (by simp -dsimp [go_sem]) rfl
  rintro _ _ rfl
  generalize hno : (decide (e.to = 0) && decide (e.other = ⟨#[]⟩)) = no
  unfold refB
  rw [hp, hnp, hno]
  unfold placeB
  by_cases k1 : e.kind = 1
  · skip
    cases p
    · skip
      simp -dsimp [go_sem, E0c, E0f, E0l, k1]
      exact k0
    · skip
      cases no
      · skip
        simp -dsimp [go_sem, E0c, E0f, E0l, k1]
        exact k0
      · skip
        by_cases d0 : e.data.length = 0
        · skip
          have d2 : e.data = [] := List.length_eq_zero_iff.1 d0
          by_cases g1 : e.page = 1
          · skip
            by_cases z1 : e.size = 0
            · skip
              simp -dsimp [go_sem, E0c, E0f, E0l, k1, d0, d2, g1, z1]
              refine (ref_number e.ino _).mono ?_; rintro _ w1 ⟨rfl, rfl⟩; refine ret_intro ?_
              cases hi : numB e.ino
              · skip
                simp -dsimp [go_sem, E0c, E0f, E0l, k1, d0, d2, g1, z1, hi]
                exact k0
              · skip
                simp -dsimp [go_sem, E0c, E0f, E0l, k1, d0, d2, g1, z1, hi]
                exact k0
            · skip
              simp -dsimp [go_sem, E0c, E0f, E0l, k1, d0, d2, g1, z1]
              exact k0
          · skip
            by_cases g2 : e.page = 2
            · skip
              by_cases z1 : e.size = 0
              · skip
                simp -dsimp [go_sem, E0c, E0f, E0l, k1, d0, d2, g1, g2, z1]
                refine (ref_number e.ino _).mono ?_; rintro _ w1 ⟨rfl, rfl⟩; refine ret_intro ?_
                cases hi : numB e.ino
                · skip
                  simp -dsimp [go_sem, E0c, E0f, E0l, k1, d0, d2, g1, g2, z1, hi]
                  exact k0
                · skip
                  simp -dsimp [go_sem, E0c, E0f, E0l, k1, d0, d2, g1, g2, z1, hi]
                  exact k0
              · skip
                simp -dsimp [go_sem, E0c, E0f, E0l, k1, d0, d2, g1, g2, z1]
                exact k0
            · skip
              simp -dsimp [go_sem, E0c, E0f, E0l, k1, d0, d2, g1, g2]
              exact k0
        · skip
          have d2 : ¬ e.data = [] := fun q => d0 (by rw [q]; rfl)
          simp -dsimp [go_sem, E0c, E0f, E0l, k1, d0, d2]
          exact k0
  by_cases k2 : e.kind = 2
  · skip
    cases p
    · skip
      simp -dsimp [go_sem, E0c, E0f, E0l, k2]
      exact k0
    · skip
      cases no
      · skip
        simp -dsimp [go_sem, E0c, E0f, E0l, k2]
        exact k0
      · skip
        by_cases d0 : e.data.length = 0
        · skip
          have d2 : e.data = [] := List.length_eq_zero_iff.1 d0
          by_cases z2 : e.page = 0
          · skip
            by_cases z1 : e.size = 0
            · skip
              simp -dsimp [go_sem, E0c, E0f, E0l, k2, d0, d2, z2, z1]
              refine (ref_number e.ino _).mono ?_; rintro _ w1 ⟨rfl, rfl⟩; refine ret_intro ?_
              cases hi : numB e.ino
              · skip
                simp -dsimp [go_sem, E0c, E0f, E0l, k2, d0, d2, z2, z1, hi]
                exact k0
              · skip
                simp -dsimp [go_sem, E0c, E0f, E0l, k2, d0, d2, z2, z1, hi]
                exact k0
            · skip
              simp -dsimp [go_sem, E0c, E0f, E0l, k2, d0, d2, z2, z1]
              exact k0
          · skip
            simp -dsimp [go_sem, E0c, E0f, E0l, k2, d0, d2, z2]
            exact k0
        · skip
          have d2 : ¬ e.data = [] := fun q => d0 (by rw [q]; rfl)
          simp -dsimp [go_sem, E0c, E0f, E0l, k2, d0, d2]
          exact k0
  by_cases k3 : e.kind = 3
  · skip
    cases p
    · skip
      simp -dsimp [go_sem, E0c, E0f, E0l, k3]
      exact k0
    · skip
      cases no
      · skip
        simp -dsimp [go_sem, E0c, E0f, E0l, k3]
        exact k0
      · skip
        by_cases d0 : e.data.length = 0
        · skip
          have d2 : e.data = [] := List.length_eq_zero_iff.1 d0
          by_cases z2 : e.page = 0
          · skip
            by_cases z1 : e.size = 0
            · skip
              simp -dsimp [go_sem, E0c, E0f, E0l, k3, d0, d2, z2, z1]
              refine (ref_number e.ino _).mono ?_; rintro _ w1 ⟨rfl, rfl⟩; refine ret_intro ?_
              cases hi : numB e.ino
              · skip
                simp -dsimp [go_sem, E0c, E0f, E0l, k3, d0, d2, z2, z1, hi]
                exact k0
              · skip
                simp -dsimp [go_sem, E0c, E0f, E0l, k3, d0, d2, z2, z1, hi]
                exact k0
            · skip
              simp -dsimp [go_sem, E0c, E0f, E0l, k3, d0, d2, z2, z1]
              exact k0
          · skip
            simp -dsimp [go_sem, E0c, E0f, E0l, k3, d0, d2, z2]
            exact k0
        · skip
          have d2 : ¬ e.data = [] := fun q => d0 (by rw [q]; rfl)
          simp -dsimp [go_sem, E0c, E0f, E0l, k3, d0, d2]
          exact k0
  by_cases k4 : e.kind = 4
  · skip
    cases p
    · skip
      simp -dsimp [go_sem, E0c, E0f, E0l, k4]
      exact k0
    · skip
      cases no
      · skip
        simp -dsimp [go_sem, E0c, E0f, E0l, k4]
        exact k0
      · skip
        by_cases d0 : e.data.length = 0
        · skip
          have d2 : e.data = [] := List.length_eq_zero_iff.1 d0
          by_cases z2 : e.page = 0
          · skip
            by_cases z1 : e.size = 0
            · skip
              simp -dsimp [go_sem, E0c, E0f, E0l, k4, d0, d2, z2, z1]
              refine (ref_number e.ino _).mono ?_; rintro _ w1 ⟨rfl, rfl⟩; refine ret_intro ?_
              cases hi : numB e.ino
              · skip
                simp -dsimp [go_sem, E0c, E0f, E0l, k4, d0, d2, z2, z1, hi]
                exact k0
              · skip
                simp -dsimp [go_sem, E0c, E0f, E0l, k4, d0, d2, z2, z1, hi]
                exact k0
            · skip
              simp -dsimp [go_sem, E0c, E0f, E0l, k4, d0, d2, z2, z1]
              exact k0
          · skip
            simp -dsimp [go_sem, E0c, E0f, E0l, k4, d0, d2, z2]
            exact k0
        · skip
          have d2 : ¬ e.data = [] := fun q => d0 (by rw [q]; rfl)
          simp -dsimp [go_sem, E0c, E0f, E0l, k4, d0, d2]
          exact k0
  by_cases k5 : e.kind = 5
  · skip
    cases p
    · skip
      simp -dsimp [go_sem, E0c, E0f, E0l, k5]
      exact k0
    · skip
      simp -dsimp [go_sem, E0c, E0f, E0l, k5]
      refine (ref_number e.to _).mono ?_; rintro _ w1 ⟨rfl, rfl⟩; refine ret_intro ?_
      cases h1 : numB e.to
      · skip
        simp -dsimp [go_sem, E0c, E0f, E0l, k5, h1]
        exact k0
      · skip
        simp -dsimp [go_sem, E0c, E0f, E0l, k5, h1]
        refine (ref_Name e.other ho _).mono ?_; rintro _ w1 ⟨rfl, rfl⟩; refine ret_intro ?_
        by_cases h2 : nameC e.other = 0
        · skip
          by_cases d0 : e.data.length = 0
          · skip
            have d2 : e.data = [] := List.length_eq_zero_iff.1 d0
            by_cases z2 : e.page = 0
            · skip
              by_cases z1 : e.size = 0
              · skip
                simp -dsimp [go_sem, E0c, E0f, E0l, k5, h1, h2, d0, d2, z2, z1]
                refine (ref_number e.ino _).mono ?_; rintro _ w1 ⟨rfl, rfl⟩; refine ret_intro ?_
                cases hi : numB e.ino
                · skip
                  simp -dsimp [go_sem, E0c, E0f, E0l, k5, h1, h2, d0, d2, z2, z1, hi]
                  exact k0
                · skip
                  simp -dsimp [go_sem, E0c, E0f, E0l, k5, h1, h2, d0, d2, z2, z1, hi]
                  exact k0
              · skip
                simp -dsimp [go_sem, E0c, E0f, E0l, k5, h1, h2, d0, d2, z2, z1]
                exact k0
            · skip
              simp -dsimp [go_sem, E0c, E0f, E0l, k5, h1, h2, d0, d2, z2]
              exact k0
          · skip
            have d2 : ¬ e.data = [] := fun q => d0 (by rw [q]; rfl)
            simp -dsimp [go_sem, E0c, E0f, E0l, k5, h1, h2, d0, d2]
            exact k0
        · skip
          simp -dsimp [go_sem, E0c, E0f, E0l, k5, h1, h2]
          exact k0
  by_cases k6 : e.kind = 6
  · skip
    cases np
    · skip
      simp -dsimp [go_sem, E0c, E0f, E0l, k6]
      exact k0
    · skip
      cases no
      · skip
        simp -dsimp [go_sem, E0c, E0f, E0l, k6]
        exact k0
      · skip
        by_cases d0 : e.data.length = 0
        · skip
          have d2 : e.data = [] := List.length_eq_zero_iff.1 d0
          by_cases z3 : e.page = 0
          · skip
            by_cases z2 : 0 ≤ e.size
            · skip
              by_cases z1 : e.size ≤ 16384
              · skip
                simp -dsimp [go_sem, E0c, E0f, E0l, k6, d0, d2, z3, z2, z1]
                refine (ref_number e.ino _).mono ?_; rintro _ w1 ⟨rfl, rfl⟩; refine ret_intro ?_
                cases hi : numB e.ino
                · skip
                  simp -dsimp [go_sem, E0c, E0f, E0l, k6, d0, d2, z3, z2, z1, hi]
                  exact k0
                · skip
                  simp -dsimp [go_sem, E0c, E0f, E0l, k6, d0, d2, z3, z2, z1, hi]
                  exact k0
              · skip
                simp -dsimp [go_sem, E0c, E0f, E0l, k6, d0, d2, z3, z2, z1]
                exact k0
            · skip
              simp -dsimp [go_sem, E0c, E0f, E0l, k6, d0, d2, z3, z2]
              exact k0
          · skip
            simp -dsimp [go_sem, E0c, E0f, E0l, k6, d0, d2, z3]
            exact k0
        · skip
          have d2 : ¬ e.data = [] := fun q => d0 (by rw [q]; rfl)
          simp -dsimp [go_sem, E0c, E0f, E0l, k6, d0, d2]
          exact k0
  by_cases k7 : e.kind = 7
  · skip
    cases np
    · skip
      simp -dsimp [go_sem, E0c, E0f, E0l, k7]
      exact k0
    · skip
      cases no
      · skip
        simp -dsimp [go_sem, E0c, E0f, E0l, k7]
        exact k0
      · skip
        by_cases d0 : e.data.length = 256
        · skip
          by_cases z4 : 0 ≤ e.page
          · skip
            by_cases z3 : e.page ≤ 63
            · skip
              by_cases z2 : e.size ≤ 16384
              · skip
                have ew : IntKind.i64.wrap (256 * e.page) = e.page * 256 := by rw [Int.mul_comm]; exact IntWalk.i64_in _ (by omega)
                by_cases g9 : e.page * 256 < e.size
                · skip
                  simp -dsimp [go_sem, E0c, E0f, E0l, k7, d0, z4, z3, z2, ew, g9]
                  refine (ref_number e.ino _).mono ?_; rintro _ w1 ⟨rfl, rfl⟩; refine ret_intro ?_
                  cases hi : numB e.ino
                  · skip
                    simp -dsimp [go_sem, E0c, E0f, E0l, k7, d0, z4, z3, z2, ew, g9, hi]
                    exact k0
                  · skip
                    simp -dsimp [go_sem, E0c, E0f, E0l, k7, d0, z4, z3, z2, ew, g9, hi]
                    exact k0
                · skip
                  simp -dsimp [go_sem, E0c, E0f, E0l, k7, d0, z4, z3, z2, ew, g9]
                  exact k0
              · skip
                simp -dsimp [go_sem, E0c, E0f, E0l, k7, d0, z4, z3, z2]
                exact k0
            · skip
              simp -dsimp [go_sem, E0c, E0f, E0l, k7, d0, z4, z3]
              exact k0
          · skip
            simp -dsimp [go_sem, E0c, E0f, E0l, k7, d0, z4]
            exact k0
        · skip
          have d1 : ¬ (e.data.length : Int) = 256 := by omega
          simp -dsimp [go_sem, E0c, E0f, E0l, k7, d0, d1]
          exact k0
  by_cases k8 : e.kind = 8
  · skip
    cases np
    · skip
      simp -dsimp [go_sem, E0c, E0f, E0l, k8]
      exact k0
    · skip
      cases no
      · skip
        simp -dsimp [go_sem, E0c, E0f, E0l, k8]
        exact k0
      · skip
        by_cases d0 : e.data.length = 0
        · skip
          have d2 : e.data = [] := List.length_eq_zero_iff.1 d0
          by_cases z2 : e.page = 0
          · skip
            by_cases z1 : e.size = 0
            · skip
              simp -dsimp [go_sem, E0c, E0f, E0l, k8, d0, d2, z2, z1]
              refine (ref_number e.ino _).mono ?_; rintro _ w1 ⟨rfl, rfl⟩; refine ret_intro ?_
              cases hi : numB e.ino
              · skip
                simp -dsimp [go_sem, E0c, E0f, E0l, k8, d0, d2, z2, z1, hi]
                exact k0
              · skip
                simp -dsimp [go_sem, E0c, E0f, E0l, k8, d0, d2, z2, z1, hi]
                exact k0
            · skip
              simp -dsimp [go_sem, E0c, E0f, E0l, k8, d0, d2, z2, z1]
              exact k0
          · skip
            simp -dsimp [go_sem, E0c, E0f, E0l, k8, d0, d2, z2]
            exact k0
        · skip
          have d2 : ¬ e.data = [] := fun q => d0 (by rw [q]; rfl)
          simp -dsimp [go_sem, E0c, E0f, E0l, k8, d0, d2]
          exact k0
  simp -dsimp [go_sem, E0c, E0f, E0l, k1, k2, k3, k4, k5, k6, k7, k8]
  exact k0
end Go.Proofs.YtdfjfagljngciaaGreat
