/- A state, and the reference's, behind deeds. -/
import Derived.Test.YtdfjfagljngciaaGreatRq
import Derived.Test.YtdfjfagljngciaaGreatTry
set_option linter.all false
set_option maxRecDepth 100000
set_option maxHeartbeats 4000000
namespace Go.Proofs.YtdfjfagljngciaaGreat
open Go.RowKit Rx Go.MapKept

theorem StAt.stepY {w w' : World} {O X Y : Nat → Prop} {b m : Nat} {s : St} (h : StAt w X b m s) (hs : Step O w w') (ho : ∀ k, O k → X k) (hb : ¬ O b) (hm : ¬ O m) (hY : ∀ k, k < w.heap.size → Y k → X k) (hl : ∀ k, Y k → k < w'.heap.size) (Yb : Y b) (Ym : Y m) : StAt w' Y b m s :=
  ⟨hs.blk h.hb hb, ((h.hm.mono (Y := fun k => X k ∨ Y k) (fun k hk q => q.elim id (hY k hk))).step hs (fun k q => .inl (ho k q)) hm).mono (fun _ _ q => .inr q), Yb, Ym, hl⟩
theorem RAt.stepY {w w' : World} {O X Y : Nat → Prop} {b : Nat} {v : Value} {s : St} (h : RAt w X b v s) (hs : Step O w w') (ho : ∀ k, O k → X k) (hb : ¬ O b) (hv : ∀ g, ownB v = some g → ¬ O g) (hY : ∀ k, k < w.heap.size → Y k → X k) (hl : ∀ k, Y k → k < w'.heap.size) (Yb : Y b) (Yv : ∀ g, ownB v = some g → Y g) : RAt w' Y b v s :=
  ⟨hs.blk h.hb hb, ((h.ho.mono (Y := fun k => X k ∨ Y k) (fun k hk q => q.elim id (hY k hk))).step hs (fun k q => .inl (ho k q)) hv).mono (fun _ _ q => .inr q), Yv, Yb, hl⟩
/-- Behind deeds. -/
def doneS (l : List Deed16) : St := l.foldl (fun s d => (applyS s d.e d.ref).1) st0
theorem doneS_next {l : List Deed16} {i : Nat} {x : Deed16} (hx : l[i]? = some x) : doneS (l.take (i + 1)) = (applyS (doneS (l.take i)) x.e x.ref).1 := by
  unfold doneS
  rw [List.take_add_one, hx, List.foldl_append]; rfl
theorem good_fold : ∀ (l : List Deed16) {k : Nat} {s : St}, Good k s → k + 2 * l.length ≤ 2 ^ 19 → Good (k + 2 * l.length) (l.foldl (fun s d => (applyS s d.e d.ref).1) s)
  | [], k, s, h, _ => h
  | d :: l, k, s, h, hk => by
    rw [List.foldl_cons, List.length_cons]
    rw [List.length_cons] at hk
    have := good_fold l (good_apply h (by omega) d.e d.ref) (by omega)
    exact this.mono (by omega)
theorem good_done {l : List Deed16} (hl : l.length ≤ 2 ^ 18) : Good (2 * l.length) (doneS l) := by
  have := good_fold l good_st0 (by omega)
  exact this.mono (by omega)
/-- A state and one of the reference's, side by side, in blocks from B on. -/
structure Two (w : World) (B b m c : Nat) (u : Value) (s t : St) : Prop where
  st : StAt w (fun k => k = b ∨ k = m ∨ k = c ∨ ownB u = some k) b m s
  rt : RAt w (fun k => k = b ∨ k = m ∨ k = c ∨ ownB u = some k) c u t
  bb : B ≤ b
  bm : B ≤ m
  bc : B ≤ c
  bu : ∀ g, ownB u = some g → B ≤ g
  nb : c ≠ b
  nm : c ≠ m
  nu : ∀ g, ownB u = some g → g ≠ b ∧ g ≠ m
theorem Two.keep {w w' : World} {B b m c : Nat} {u : Value} {s t : St} (h : Two w B b m c u s t) (k : Keep w w') : Two w' B b m c u s t :=
  ⟨h.st.keep k, h.rt.keep k, h.bb, h.bm, h.bc, h.bu, h.nb, h.nm, h.nu⟩
/-- The state alone changes. -/
theorem Two.left {w w' : World} {B b m c : Nat} {u : Value} {s s' t : St} (h : Two w B b m c u s t) (hs : Step (fun k => k = b ∨ k = m) w w') (h' : StAt w' (fun k => k = b ∨ k = m ∨ k = c ∨ ownB u = some k) b m s') : Two w' B b m c u s' t :=
  ⟨h', h.rt.step hs (fun k q => q.elim .inl (fun q => .inr (.inl q))) (fun q => q.elim h.nb h.nm) (fun g hg q => q.elim (h.nu g hg).1 (h.nu g hg).2), h.bb, h.bm, h.bc, h.bu, h.nb, h.nm, h.nu⟩
/-- The reference's alone changes. -/
theorem Two.right {w w' : World} {B b m c : Nat} {u u' : Value} {s t t' : St} (h : Two w B b m c u s t) (hB : B ≤ w.heap.size) (hs : Step (fun k => k = c ∨ ownB u = some k) w w') (h' : RAt w' (fun k => (k = b ∨ k = m ∨ k = c ∨ ownB u = some k) ∨ ownB u' = some k) c u' t') (hu : ∀ g, ownB u' = some g → ownB u = some g ∨ w.heap.size ≤ g) : Two w' B b m c u' s t' := by
  have hl : ∀ k, (k = b ∨ k = m ∨ k = c ∨ ownB u' = some k) → k < w'.heap.size := fun k q => h'.xl k (by
    rcases q with q | q | q | q
    · exact .inl (.inl q)
    · exact .inl (.inr (.inl q))
    · exact .inl (.inr (.inr (.inl q)))
    · exact .inr q)
  have hsz := h.st.size_b
  refine ⟨h.st.stepY hs (fun k q => .inr (.inr q)) (fun q => q.elim (fun q => h.nb q.symm) (fun q => (h.nu b q).1 rfl)) (fun q => q.elim (fun q => h.nm q.symm) (fun q => (h.nu m q).2 rfl)) (fun k hk q => ?_) hl (.inl rfl) (.inr (.inl rfl)), h'.mono (.inr (.inr (.inl rfl))) (fun g q => .inr (.inr (.inr q))) (fun k q => ?_), h.bb, h.bm, h.bc, fun g q => ?_, h.nb, h.nm, fun g q => ?_⟩
  · rcases q with q | q | q | q
    · exact .inl q
    · exact .inr (.inl q)
    · exact .inr (.inr (.inl q))
    · exact .inr (.inr (.inr ((hu k q).resolve_right (by omega))))
  · rcases q with q | q | q | q
    · exact .inl (.inl q)
    · exact .inl (.inr (.inl q))
    · exact .inl (.inr (.inr (.inl q)))
    · exact .inr q
  · rcases hu g q with q' | q'
    · exact h.bu g q'
    · omega
  · rcases hu g q with q' | q'
    · exact h.nu g q'
    · omega
theorem few_sizes {x : Effect} (h : x.few) : x.name.size < 2 ^ 62 ∧ x.other.size < 2 ^ 62 := by
  obtain ⟨h1, h2, h3⟩ := h
  omega
theorem law_Done (l : List Deed16) (v : Value) (w : World) (h : Sl rDeed16 (fun _ => False) w v l) (hl : l.length ≤ 30) (hf : ∀ x ∈ l, x.e.few) :
    Calls Tryz.prog 11 #[v] w fun r w' => ∃ b m c u, r = .returned (.tuple #[.pointer (some ⟨b, 0, none⟩), .pointer (some ⟨c, 0, none⟩)]) ∧ Two w' w.heap.size b m c u (doneS l) (doneS l) ∧ Keep w w' := by
  obtain ⟨a, cc, rfl, -⟩ := id h
  refine calls_rx h11 Tryz.func11 rfl Tryz.mixed (by kernel_rfl) Tryz.results11 ?_
  simp -dsimp [go_sem]
  refine (state_New (fun _ => False) w (fun _ q => q.elim)).mono ?_; rintro _ w1 ⟨b, m, rfl, h1, k1, hb1, hm1⟩; refine ret_intro ?_
  simp -dsimp [go_sem]
  have hbm := h1.size_b
  refine (ref_New (fun k => k = b ∨ k = m) w1 (fun k q => by rcases q with rfl | rfl; exact hbm.1; exact hbm.2.1)).mono ?_; rintro _ w2 ⟨c, u, rfl, h2, k2, hc2, hu2⟩; refine ret_intro ?_
  simp -dsimp [go_sem]
  have l1 := k1.size
  have k12 := Keep.trans k1 k2
  have hu2' := h2.xl
  have T0 : Two w2 w.heap.size b m c u st0 st0 := by
    refine ⟨h1.stepY k2 (fun _ q => q.elim) id id (fun k hk q => ?_) (fun k q => hu2' k ?_) (.inl rfl) (.inr (.inl rfl)), h2.mono (.inr (.inr (.inl rfl))) (fun g q => .inr (.inr (.inr q))) (fun k q => ?_), hb1, hm1, by omega, fun g q => by have := hu2 g q; omega, by omega, by omega, fun g q => by have := hu2 g q; omega⟩
    · rcases q with q | q | q | q
      · exact .inr (.inl q)
      · exact .inr (.inr q)
      · omega
      · have := hu2 k q; omega
    · rcases q with q | q | q | q
      · exact .inl (.inl q)
      · exact .inl (.inr q)
      · exact .inr (.inl q)
      · exact .inr (.inr q)
    · rcases q with q | q | q | q
      · exact .inl (.inl q)
      · exact .inl (.inr q)
      · exact .inr (.inl q)
      · exact .inr (.inr q)
  have hl' : Sl rDeed16 (fun k => w.heap.size ≤ k) w (.slice a l.length cc) l := h.mono (fun k hk q => by omega)
  refine loop_intro (σ := Nat) (fun i => [.int .i64 i]) (fun i w' => i ≤ l.length ∧ Keep w w' ∧ ∃ u, Two w' w.heap.size b m c u (doneS (l.take i)) (doneS (l.take i))) (fun i => l.length - i) 0 (by simp -dsimp [go_sem]; rfl) (by simp -dsimp [go_sem]) ⟨Nat.zero_le _, k12, u, T0⟩ ?_
  clear T0 h1 h2 hu2 hu2'
  rintro i w3 ⟨hi, k3, u, T3⟩
  simp -dsimp [go_sem]
  by_cases g1 : i < l.length
  rotate_left
  · obtain rfl : i = l.length := by omega
    rw [List.take_length] at T3
    simp -dsimp [go_sem, Nat.lt_irrefl]
    exact ⟨b, m, c, ⟨rfl, rfl⟩, ⟨u, T3⟩, k3⟩
  have hx : l[i]? = some l[i] := List.getElem?_eq_getElem _
  generalize l[i] = x at hx
  obtain ⟨q, off, c', d, e, hq, -, hok, hd, c0, c1, c2, c3, c4, c5, c6, c7, c8, c9⟩ := (h.keep k3).deed16 hx
  cases e
  obtain ⟨da, dc, rfl, -⟩ := id hd
  have i2 : (i : Int) < l.length := by omega
  have hfx := few_sizes (hf x (List.mem_of_getElem? hx))
  have hdn := doneS_next hx
  have hgd := good_done (l := l.take i) (by rw [List.length_take]; omega)
  rw [List.length_take, Nat.min_eq_left hi] at hgd
  have hfi := hgd.fine (by omega)
  simp -dsimp [go_sem, g1, i2, hq, c0, c1, c2, c3, c4, c5, c6, c7, c8, c9]
  generalize hW : w3.alloc _ = w4
  obtain ⟨X4, k4, z4⟩ := alloc1 hW
  clear hW
  have T4 := T3.keep k4
  try have X4c := blk_cell X4; have X4f := blk_free X4; have X4l := blk_lt X4
  try simp -dsimp [go_sem, X4c, X4f, X4l]
  refine (state_Apply _ b m (doneS (l.take i)) hfi (hgd.names (by omega)) x.e hok.1 x.ref hok.2 da dc w4 T4.st).mono ?_
  rintro _ w5 ⟨gv, rfl, -, h5, s5, -⟩
  refine ret_intro ?_
  have T5 := T4.left s5 h5
  have hbw := T4.st.size_b
  have X5 := s5.blk X4 (fun q => by have := T3.st.size_b; omega)
  clear X4c X4f X4l
  have X5c := blk_cell X5; have X5f := blk_free X5; have X5l := blk_lt X5
  simp -dsimp [go_sem, X5c, X5f, X5l]
  refine (ref_Apply _ c u (doneS (l.take i)) (2 * i) hgd (by omega) x.e hok.1 hfx.1 hfx.2 x.ref hok.2 da dc w5 T5.rt).mono ?_
  rintro _ w6 ⟨gv', u', rfl, -, h6, s6, -, hu6⟩
  refine ret_intro ?_
  have l3 := k3.size
  have l5 := s5.size
  have T6 := T5.right (by omega) s6 h6 hu6
  rw [← hdn] at T6
  have hb1 := T3.bb
  have hb2 := T3.bm
  have hb3 := T3.bc
  have hb4 := T3.bu
  have kA : Keep w w5 := Step.keep (Keep.trans k3 k4) s5 (fun j q => by omega)
  have kB : Keep w w6 := Step.keep kA s6 (fun j q => q.elim (fun q => by omega) (fun q => hb4 j q))
  simp -dsimp [go_sem]
  try simp -dsimp (disch := omega) only [IntWalk.i64_in, IntWalk.u64_in, IntWalk.u8_in]
  exact back_intro (i + 1) (by simp -dsimp [go_sem]) (by simp -dsimp [go_sem]) ⟨by omega, kB, u', T6⟩ (by omega)
end Go.Proofs.YtdfjfagljngciaaGreat
