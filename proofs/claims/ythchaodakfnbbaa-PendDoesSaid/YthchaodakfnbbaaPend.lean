/- Package pend: what each method of a list of effects does to it. -/
import Derived.Test.YthchaodakfnbbaaEff
set_option linter.all false
namespace Go.Proofs.Ythchaodakfnbbaa
open Go.RowKit Rx

/-- An effect of a list, and its page's number. -/
structure POne where
  e : Ef
  id : Int
  deriving DecidableEq
instance : Inhabited POne := ⟨⟨default, 0⟩⟩
def POne.enc (x : POne) : List Value := x.e.enc (.slice none 0 0) ++ [.int .i64 x.id]
theorem POne.enc_len (x : POne) : x.enc.length = 10 := rfl
/-- A list: its block, and the row that is its own; O: what it may write. -/
structure Pend.At (w : World) (O : Nat → Prop) (p : Nat) (q : List POne) (gone : Int) : Prop where
  is : ∃ v, w.heap[p]? = some (.cells #[v, .int .i64 gone] 50 (0, 0)) ∧ OwnS w 66 10 v q.length (q.flatMap POne.enc) ∧ (∀ g, v.ownBlock = some g → O g ∧ g ≠ p)
  own : O p
  lt : ∀ k, O k → k < w.heap.size
theorem Pend.At.step {w w' : World} {O O' : Nat → Prop} {p : Nat} {q : List POne} {gone : Int} (h : Pend.At w O p q gone) (hs : Step O' w w') (hn : ∀ k, O k → ¬ O' k) : Pend.At w' O p q gone := by
  obtain ⟨⟨v, h1, h2, h3⟩, h4, h5⟩ := h
  exact ⟨⟨v, hs.blk h1 (hn p h4), h2.step hs (fun g hg => hn g (h3 g hg).1), h3⟩, h4, fun k hk => hs.lt (h5 k hk)⟩
theorem Pend.At.keep {w w' : World} {O : Nat → Prop} {p : Nat} {q : List POne} {gone : Int} (h : Pend.At w O p q gone) (hs : Keep w w') : Pend.At w' O p q gone := h.step hs (fun _ _ q => q)

theorem pend_Len (O : Nat → Prop) (p : Nat) (q : List POne) (gone : Int) (w : World) (h : Pend.At w O p q gone) :
    Calls Try.prog 25 #[.pointer (some ⟨p, 0, none⟩)] w fun r w' => r = .returned (.int .i64 q.length) ∧ w = w' := by
  obtain ⟨v, h1, h2, h3⟩ := h.is
  obtain ⟨a, c, rfl, -⟩ := h2.slice
  have h1' := blk_cell h1
  refine calls_rx h25 Try.func25 rfl Try.mixed (by kernel_rfl) Try.results25 ?_
  simp -dsimp [go_sem, h1']
theorem pend_Gone (O : Nat → Prop) (p : Nat) (q : List POne) (gone : Int) (w : World) (h : Pend.At w O p q gone) :
    Calls Try.prog 26 #[.pointer (some ⟨p, 0, none⟩)] w fun r w' => r = .returned (.int .i64 gone) ∧ w = w' := by
  obtain ⟨v, h1, h2, h3⟩ := h.is
  have h1' := blk_cell h1
  refine calls_rx h26 Try.func26 rfl Try.mixed (by kernel_rfl) Try.results26 ?_
  simp -dsimp [go_sem, h1']
theorem pend_Next (O : Nat → Prop) (p : Nat) (q : List POne) (gone : Int) (w : World) (h : Pend.At w O p q gone) (h0 : 0 ≤ gone) (hg : gone + q.length + 1 < 2 ^ 62) :
    Calls Try.prog 27 #[.pointer (some ⟨p, 0, none⟩)] w fun r w' => r = .returned (.int .i64 (gone + q.length + 1)) ∧ Keep w w' := by
  obtain ⟨v, h1, h2, h3⟩ := h.is
  obtain ⟨a, c, rfl, -⟩ := h2.slice
  have h1' := blk_cell h1
  refine calls_rx h27 Try.func27 rfl Try.mixed (by kernel_rfl) Try.results27 ?_
  simp -dsimp [go_sem, h1']
  simp -dsimp (disch := omega) only [IntWalk.i64_in, IntWalk.u64_in, IntWalk.u8_in]
  exact ⟨trivial, keep_drew w⟩
set_option maxRecDepth 100000 in
theorem pend_Head (O : Nat → Prop) (p : Nat) (q : List POne) (gone : Int) (w : World) (h : Pend.At w O p q gone) :
    Calls Try.prog 23 #[.pointer (some ⟨p, 0, none⟩)] w fun r w' => r = .returned (.tuple #[(q.head?.getD default).e.val (.slice none 0 0), .int .i64 (q.head?.getD default).id, .bool (!q.isEmpty)]) ∧ Keep w w' := by
  obtain ⟨v, h1, h2, h3⟩ := h.is
  obtain ⟨a, c, rfl, -, -, hc⟩ := h2.slice
  have h1' := blk_cell h1
  refine calls_rx h23 Try.func23 rfl Try.mixed (by kernel_rfl) Try.results23 ?_
  simp -dsimp [go_sem]
  refine (pend_Len O p q gone _ (h.keep (keep_alloc _ _))).mono ?_; rintro e w1 ⟨rfl, rfl⟩; refine ret_intro ?_
  cases q with
  | nil => 
    simp -dsimp [go_sem]
    exact ⟨⟨rfl, rfl⟩, keep_alloc _ _⟩
  | cons x r =>
    obtain ⟨g, off, rfl, hb, -, hc, -⟩ := hc (by simp)
    have i0 : ¬ (r.length : Int) + 1 = 0 := by omega
    have i1 : (0 : Int) < r.length + 1 := by omega
    have hp := blk_lt h1
    obtain ⟨c0, c1, c2, c3, c4, c5, c6, c7, c8, c9⟩ : w.cell? ⟨g, off, none⟩ = some (.int .i64 x.e.kind) ∧ w.cell? ⟨g, off + 1, none⟩ = some (.int .i64 x.e.ino) ∧ w.cell? ⟨g, off + 2, none⟩ = some (.int .i64 x.e.dir) ∧ w.cell? ⟨g, off + 3, none⟩ = some (.int .i64 x.e.to) ∧ w.cell? ⟨g, off + 4, none⟩ = some (.int .i64 x.e.page) ∧ w.cell? ⟨g, off + 5, none⟩ = some (.int .i64 x.e.size) ∧ w.cell? ⟨g, off + 6, none⟩ = some (.string x.e.name) ∧ w.cell? ⟨g, off + 7, none⟩ = some (.string x.e.other) ∧ w.cell? ⟨g, off + 8, none⟩ = some (.slice none 0 0) ∧ w.cell? ⟨g, off + 9, none⟩ = some (.int .i64 x.id) :=
      ⟨hc 0 _ rfl, hc 1 _ rfl, hc 2 _ rfl, hc 3 _ rfl, hc 4 _ rfl, hc 5 _ rfl, hc 6 _ rfl, hc 7 _ rfl, hc 8 _ rfl, hc 9 _ rfl⟩
    simp -dsimp [go_sem, i0, i1]
    refine blankF_intro w (agree_alloc (Agree.refl w) _) ?_
    simp -dsimp [go_sem, i0, i1, h1', hp, hb, c0, c1, c2, c3, c4, c5, c6, c7, c8, c9]
    exact ⟨(agree_alloc (Agree.refl w) _).trans (agree_drew (Agree.refl _)), rfl, (keep_alloc w _).drew⟩
theorem pend_Pop (O : Nat → Prop) (p : Nat) (q : List POne) (gone : Int) (w : World) (h : Pend.At w O p q gone) (h0 : 0 ≤ gone) (hg : gone < 2 ^ 62) :
    Calls Try.prog 21 #[.pointer (some ⟨p, 0, none⟩)] w fun r w' => r = .returned (.bool (!q.isEmpty)) ∧ Pend.At w' O p q.tail (if q = [] then gone else gone + 1) ∧ Step O w w' := by
  obtain ⟨v, h1, h2, h3⟩ := h.is
  refine calls_rx h21 Try.func21 rfl Try.mixed (by kernel_rfl) Try.results21 ?_
  simp -dsimp [go_sem]
  refine (pend_Len O p q gone _ h).mono ?_; rintro e w1 ⟨rfl, rfl⟩; refine ret_intro ?_
  cases q with
  | nil =>
    simp -dsimp [go_sem]
    exact ⟨h, Step.refl _ _⟩
  | cons x r =>
    have i0 : ¬ (r.length : Int) + 1 = 0 := by omega
    obtain ⟨a, c, rfl, o2, o3, o4, o5⟩ := h2.cut (l := 1) (m := (x :: r).length) (by simp) (Nat.le_refl _)
    have h1' := blk_cell h1
    have hf := blk_free h1
    have hp := blk_lt h1
    have i1 : (1 : Int) ≤ r.length + 1 := by omega
    have hsl : ∃ v', v' = sliced a 1 (r.length + 1) c 10 ∧ OwnS w 66 10 v' r.length (r.flatMap POne.enc) := ⟨_, rfl, by
      have e1 : List.take (r.length * 10) (List.flatMap POne.enc r) = List.flatMap POne.enc r := List.take_of_length_le (by rw [rows_length POne.enc 10 POne.enc_len]; omega)
      rw [← e1]; simpa [POne.enc, Ef.enc] using o2⟩
    obtain ⟨v', hv', o2'⟩ := hsl
    have ob : v'.ownBlock = (Value.slice a (x :: r).length c).ownBlock := by rw [hv', ← o3]; rfl
    have hv2 : sliced a 1 (r.length + 1) c 10 = Value.slice (if c = 1 then a else Option.map (fun x => x.add 10) a) r.length (c - 1) := by simp [sliced]
    rw [hv2] at hv'
    simp [Addr.add] at hv'
    simp -dsimp [go_sem, h1', hf, hp, i0, i1]
    simp -dsimp (disch := omega) only [IntWalk.i64_in, IntWalk.u64_in, IntWalk.u8_in]
    rw [← hv']
    refine ⟨⟨⟨v', ?_, ?_, ?_⟩, h.own, ?_⟩, ?_⟩
    · exact blk_set (blk_set h1 0 v') 1 _
    · exact o2'.step (((Step.refl (fun k => k = p) w).set (p := ⟨p, 0, none⟩) (.inl rfl) _).set (p := ⟨p, 1, none⟩) (.inl rfl) _) (fun g hg => (h3 g (by rw [← hg, ob])).2)
    · intro g hg; exact h3 g (by rw [← hg, ob])
    · intro k hk; simpa [World.setCell] using h.lt k hk
    · exact ((Step.refl O w).set (p := ⟨p, 0, none⟩) (.inl h.own) _).set (p := ⟨p, 1, none⟩) (.inl h.own) _
theorem pend_Add (O : Nat → Prop) (p : Nat) (q : List POne) (gone : Int) (e : Ef) (d : Value) (id : Int) (w : World) (h : Pend.At w O p q gone) (h0 : 0 ≤ gone) (hg : gone < 2 ^ 40) (hq : q.length < 2 ^ 30) :
    Calls Try.prog 22 #[.pointer (some ⟨p, 0, none⟩), e.val d, .int .i64 id] w fun r w' => r = .returned (.int .i64 (gone + q.length + 1)) ∧ ∃ O', Pend.At w' O' p (q ++ [⟨e, id⟩]) gone ∧ Step O w w' ∧ ∀ k, O' k → O k ∨ w.heap.size ≤ k := by
  obtain ⟨v, h1, h2, h3⟩ := h.is
  refine calls_rx h22 Try.func22 rfl Try.mixed (by kernel_rfl) Try.results22 ?_
  unfold Ef.val Ef.enc
  simp -dsimp [go_sem]
  refine (pend_Next O p q gone _ (h.keep (keep_alloc _ _)) h0 (by omega)).mono ?_; rintro _ w1 ⟨rfl, k1⟩; refine ret_intro ?_
  have k01 := Keep.trans (keep_alloc w _) k1
  have g1 := k01.blk h1 (fun q => q)
  have hp := blk_lt g1
  have g1' := blk_cell g1
  have gf := blk_free g1
  have hd := k1.blk (heap_alloc_new w (Obj.cells (e.enc d).toArray 53)) (fun q => q)
  have hdc := blk_cell hd
  have hdl := blk_lt hd
  unfold Ef.enc at hdc
  simp -dsimp [go_sem, hp, g1', gf, hdc, hdl]
  refine (effect_Bare e d _).mono ?_; rintro _ w2 ⟨rfl, k2⟩; refine ret_intro ?_
  have k02 := Keep.trans (Step.drew k01) k2
  have m1 := k02.blk h1 (fun q => q)
  have hp := blk_lt m1
  have m1' := blk_cell m1
  have mf := blk_free m1
  unfold Ef.val Ef.enc
  simp -dsimp [go_sem, hp, m1', mf]
  have k12 := Keep.trans (keep_drew w1) k2
  refine ⟨Keep.agree k12 (Agree.refl _), Keep.agree (Step.alloc k12 _) (Agree.refl _), ?_⟩
  have n2 := blk_alloc m1 (Obj.cells (POne.enc ⟨e, id⟩).toArray 66)
  have o2 := (h2.keep k02).keep (keep_alloc w2 (Obj.cells (POne.enc ⟨e, id⟩).toArray 66))
  have e2 := blk_cell (heap_alloc_new w2 (Obj.cells (POne.enc ⟨e, id⟩).toArray 66))
  have k03 := Step.alloc k02 (Obj.cells (POne.enc ⟨e, id⟩).toArray 66)
  refine app_at (w := w2.alloc (Obj.cells (POne.enc ⟨e, id⟩).toArray 66)) 10 112 Try.underlying48 (by kernel_rfl) o2 (m := 1) (POne.enc ⟨e, id⟩) rfl (fun j u hu => by rw [Addr.add_mid, e2]; simpa using hu) (by simp [POne.enc, Ef.enc, Value.oneCell']) (by unfold maxLen; omega) (by omega) ?_
  intro v3 w3 o3 k3 b3
  generalize w2.alloc _ = w2' at n2 o2 e2 k03 k3 b3
  have n3 := k3.blk n2 (fun q => (h3 p q).2 rfl)
  have hp3 := blk_lt n3
  have n3' := blk_cell n3
  have f3 := blk_free n3
  obtain ⟨a3, c3, e3, -⟩ := o3.slice
  have e3' := e3
  subst e3'
  simp -dsimp [go_sem, hp3, n3', f3]
  have l3 := h.lt
  have ks : Step O w w3 := Step.trans (Keep.any k03) k3 (fun g _ q => (h3 g q).1)
  refine ⟨fun k => O k ∨ (Value.slice a3 (q.length + 1) c3).ownBlock = some k, ⟨⟨_, blk_set n3 0 _, ?_, fun g hg => ⟨.inr hg, ?_⟩⟩, .inl h.own, ?_⟩, ?_, ?_⟩
  · have := o3.step ((Step.refl (fun k => k = p) w3).set (p := ⟨p, 0, none⟩) (.inl rfl) (.slice a3 (q.length + 1) c3)) (fun g hg e => ?_)
    · simpa [POne.enc, Ef.enc] using this
    · subst e
      rcases b3 _ hg with q1 | q1
      · exact (h3 _ q1).2 rfl
      · exact absurd (blk_lt n2) (by omega)
  · rintro rfl
    rcases b3 _ hg with q1 | q1
    · exact (h3 _ q1).2 rfl
    · exact absurd (blk_lt n2) (by omega)
  · rintro k (hk | hk)
    · have := ks.lt (l3 k hk); simpa [World.setCell] using this
    · have := o3.lt hk; simpa [World.setCell] using this
  · exact ks.set (p := ⟨p, 0, none⟩) (.inl h.own) _
  · rintro k (hk | hk)
    · exact .inl hk
    · rcases b3 k hk with q1 | q1
      · exact .inl (h3 k q1).1
      · exact .inr (Nat.le_trans k03.size q1)

/-- One element of the list, cell by cell. -/
theorem pone_cells {w : World} {g off : Nat} {q : List POne} (hc : ∀ (j : Nat) (u : Value), (q.flatMap POne.enc)[j]? = some u → w.cell? ⟨g, off + j, none⟩ = some u) {i : Nat} {x : POne} (hx : q[i]? = some x) :
    w.cell? ⟨g, off + i * 10, none⟩ = some (.int .i64 x.e.kind) ∧ w.cell? ⟨g, off + i * 10 + 1, none⟩ = some (.int .i64 x.e.ino) ∧ w.cell? ⟨g, off + i * 10 + 2, none⟩ = some (.int .i64 x.e.dir) ∧ w.cell? ⟨g, off + i * 10 + 3, none⟩ = some (.int .i64 x.e.to) ∧ w.cell? ⟨g, off + i * 10 + 4, none⟩ = some (.int .i64 x.e.page) ∧ w.cell? ⟨g, off + i * 10 + 5, none⟩ = some (.int .i64 x.e.size) ∧ w.cell? ⟨g, off + i * 10 + 6, none⟩ = some (.string x.e.name) ∧ w.cell? ⟨g, off + i * 10 + 7, none⟩ = some (.string x.e.other) ∧ w.cell? ⟨g, off + i * 10 + 8, none⟩ = some (.slice none 0 0) ∧ w.cell? ⟨g, off + i * 10 + 9, none⟩ = some (.int .i64 x.id) := by
  have h : ∀ j u, j < 10 → (POne.enc x)[j]? = some u → w.cell? ⟨g, off + i * 10 + j, none⟩ = some u := fun j u hj hu => by
    rw [Nat.add_assoc]; exact hc _ _ (by rw [rows_at POne.enc 10 POne.enc_len (by omega) _ _ _ hj, hx]; exact hu)
  exact ⟨h 0 _ (by omega) rfl, h 1 _ (by omega) rfl, h 2 _ (by omega) rfl, h 3 _ (by omega) rfl, h 4 _ (by omega) rfl, h 5 _ (by omega) rfl, h 6 _ (by omega) rfl, h 7 _ (by omega) rfl, h 8 _ (by omega) rfl, h 9 _ (by omega) rfl⟩
def lastN (l : List Ef) (ino gone : Int) : Nat → Int
  | 0 => gone
  | i + 1 => if (l[i]?.getD default).ino = ino then gone + i + 1 else lastN l ino gone i
theorem pend_Last (O : Nat → Prop) (p : Nat) (q : List POne) (gone ino : Int) (w : World) (h : Pend.At w O p q gone) (h0 : 0 ≤ gone) (hg : gone < 2 ^ 40) (hq : q.length < 2 ^ 30) :
    Calls Try.prog 28 #[.pointer (some ⟨p, 0, none⟩), .int .i64 ino] w fun r w' => r = .returned (.int .i64 (lastN (q.map (·.e)) ino gone q.length)) ∧ Keep w w' := by
  obtain ⟨v, h1, h2, h3⟩ := h.is
  obtain ⟨a, c, rfl, -, -, hc⟩ := h2.slice
  have h1' := blk_cell h1
  have hp := blk_lt h1
  refine calls_rx h28 Try.func28 rfl Try.mixed (by kernel_rfl) Try.results28 ?_
  simp -dsimp [go_sem]
  refine (pend_Gone O p q gone _ h).mono ?_; rintro e w1 ⟨rfl, rfl⟩; refine ret_intro ?_
  simp -dsimp [go_sem, h1', hp]
  refine loop_intro (σ := Nat) (fun i => [.int .i64 (lastN (q.map (·.e)) ino gone i), .int .i64 i]) (fun i w' => i ≤ q.length ∧ Keep w w') (fun i => q.length - i) 0 (by simp -dsimp [go_sem]; rfl) (by simp -dsimp [go_sem, lastN]) ⟨by simp, Keep.refl w⟩ ?_
  rintro i w1 ⟨hi, k1⟩
  simp -dsimp [go_sem]
  refine condF_intro (fun g1 => ?_) (fun g1 => ?_)
  · simp at g1
    have hx : q[i]? = some q[i] := List.getElem?_eq_getElem _
    generalize q[i] = x at hx
    obtain ⟨g, off, rfl, hb, -, hc, -⟩ := hc (by omega)
    obtain ⟨c0, c1, c2, c3, c4, c5, c6, c7, c8, c9⟩ := pone_cells (fun j u hu => k1.cell (hc j u hu) (fun q => q)) hx
    have hb := k1.lt hb
    have i2 : (i : Int) < q.length := by omega
    simp -dsimp [go_sem, i2, hb, c0, c1, c2, c3, c4, c5, c6, c7, c8, c9]
    refine (effect_Touches x.e (.slice none 0 0) ino _).mono ?_; rintro e w2 ⟨rfl, k2⟩; refine ret_intro ?_
    have hle : lastN (q.map (·.e)) ino gone (i + 1) = if x.e.ino = ino then gone + i + 1 else lastN (q.map (·.e)) ino gone i := by
      rw [lastN]; simp [hx]
    have kk := Keep.trans (k1.alloc _) k2
    by_cases hxi : x.e.ino = ino
    · rw [if_pos hxi] at hle
      have m1' := blk_cell (k2.blk (blk_alloc (k1.blk h1 (fun q => q)) _) (fun q => q))
      have mp := kk.lt hp
      simp -dsimp [go_sem, hxi, m1', mp]
      simp -dsimp (disch := omega) only [IntWalk.i64_in, IntWalk.u64_in, IntWalk.u8_in]
      exact back_intro (i + 1) (by simp -dsimp [go_sem, hle]) (by simp -dsimp [go_sem]) ⟨by omega, kk⟩ (by omega)
    · rw [if_neg hxi] at hle
      simp -dsimp [go_sem, hxi]
      simp -dsimp (disch := omega) only [IntWalk.i64_in, IntWalk.u64_in, IntWalk.u8_in]
      exact back_intro (i + 1) (by simp -dsimp [go_sem, hle]) (by simp -dsimp [go_sem]) ⟨by omega, kk⟩ (by omega)
  · simp at g1
    obtain rfl : i = q.length := by omega
    simp -dsimp [go_sem]
    exact k1
theorem pend_All (O : Nat → Prop) (p : Nat) (q : List POne) (gone : Int) (w : World) (h : Pend.At w O p q gone) (hq : q.length < 2 ^ 30) :
    Calls Try.prog 30 #[.pointer (some ⟨p, 0, none⟩)] w fun r w' => ∃ a c, r = .returned (.slice a q.length c) ∧ SlAt RE 9 w' a (q.map fun x => ⟨x.e, []⟩) ∧ Keep w w' := by
  obtain ⟨v, h1, h2, h3⟩ := h.is
  obtain ⟨a, c, rfl, -, -, hc⟩ := h2.slice
  have h1' := blk_cell h1
  have hp := blk_lt h1
  refine calls_rx h30 Try.func30 rfl Try.mixed (by kernel_rfl) Try.results30 ?_
  simp -dsimp [go_sem, h1', hp]
  refine loop_intro (σ := Nat × Value) (fun s => [s.2, .int .i64 s.1]) (fun s w' => s.1 ≤ q.length ∧ Keep w w' ∧ OwnS w' 53 9 s.2 s.1 ((q.take s.1).flatMap fun x => x.e.enc (.slice none 0 0)) ∧ ∀ g, s.2.ownBlock = some g → w.heap.size ≤ g) (fun s => q.length - s.1) (0, .slice none 0 0) (by simp -dsimp [go_sem]; rfl) (by simp -dsimp [go_sem]) ⟨by simp, Keep.refl w, OwnS.nil _ _ _, by simp [Value.ownBlock]⟩ ?_
  rintro ⟨i, v⟩ w1 ⟨hi, k1, o1, b1⟩
  simp -dsimp [go_sem]
  refine condF_intro (fun g1 => ?_) (fun g1 => ?_)
  · simp at g1
    have hx : q[i]? = some q[i] := List.getElem?_eq_getElem _
    generalize q[i] = x at hx
    obtain ⟨g, off, rfl, hb, -, hc, -⟩ := hc (by omega)
    obtain ⟨c0, c1, c2, c3, c4, c5, c6, c7, c8, c9⟩ := pone_cells (fun j u hu => k1.cell (hc j u hu) (fun q => q)) hx
    have hb := k1.lt hb
    have i2 : (i : Int) < q.length := by omega
    simp -dsimp [go_sem, i2, hb, c0, c1, c2, c3, c4, c5, c6, c7, c8, c9]
    have kk := (k1.alloc (Obj.cells (POne.enc x).toArray 66)).alloc (Obj.cells (x.e.enc (.slice none 0 0)).toArray 53)
    have o2 := (o1.keep (keep_alloc w1 (Obj.cells (POne.enc x).toArray 66))).keep (keep_alloc _ (Obj.cells (x.e.enc (.slice none 0 0)).toArray 53))
    have e2 := blk_cell (heap_alloc_new (w1.alloc (Obj.cells (POne.enc x).toArray 66)) (Obj.cells (x.e.enc (.slice none 0 0)).toArray 53))
    have hs2 : (w1.alloc (Obj.cells (POne.enc x).toArray 66)).heap.size = w1.heap.size + 1 := by simp
    rw [hs2] at e2
    refine app_at (w := (w1.alloc (Obj.cells (POne.enc x).toArray 66)).alloc (Obj.cells (x.e.enc (.slice none 0 0)).toArray 53)) 9 104 Try.underlying44 (by kernel_rfl) o2 (m := 1) (x.e.enc (.slice none 0 0)) rfl (fun j u hu => by rw [Addr.add_mid, e2]; simpa using hu) (by simp [Ef.enc, Value.oneCell']) (by unfold maxLen; simp at hi ⊢; omega) (by simp at hi ⊢; omega) ?_
    intro v3 w3 o3 k3 b3
    have k4 : Keep w w3 := Step.keep kk k3 (fun g hg => b1 g hg)
    simp -dsimp [go_sem]
    simp -dsimp (disch := omega) only [IntWalk.i64_in, IntWalk.u64_in, IntWalk.u8_in]
    refine back_intro (i + 1, v3) (by simp -dsimp [go_sem]) (by simp -dsimp [go_sem]) ⟨by show i + 1 ≤ q.length; omega, k4, ?_, fun g hg => ?_⟩ (by show q.length - (i + 1) < q.length - i; have := g1; omega)
    · rw [List.take_add_one, hx, List.flatMap_append]; simpa using o3
    · rcases b3 g hg with q1 | q1
      · exact b1 g q1
      · exact Nat.le_trans kk.size q1
  · simp at g1
    obtain rfl : i = q.length := by omega
    simp -dsimp [go_sem]
    obtain ⟨a', c', rfl, hc', hs⟩ := OwnS.recs (fun x : POne => x.e.enc (.slice none 0 0)) (n := 9) (fun _ => rfl) (by omega) (fun x => (⟨x.e, []⟩ : Eff)) RE (l := q) (by simpa using o1) rfl (fun x _ => ⟨_, rfl, Bytes.none _⟩)
    exact ⟨a', ⟨c', rfl⟩, hs, k1⟩

/-! A list that there isn't. -/
theorem pend_Len_nil (w : World) : Calls Try.prog 25 #[.pointer none] w fun r w' => r = .returned (.int .i64 0) ∧ w = w' := by
  refine calls_rx h25 Try.func25 rfl Try.mixed (by kernel_rfl) Try.results25 ?_
  simp -dsimp [go_sem]
theorem pend_Gone_nil (w : World) : Calls Try.prog 26 #[.pointer none] w fun r w' => r = .returned (.int .i64 0) ∧ w = w' := by
  refine calls_rx h26 Try.func26 rfl Try.mixed (by kernel_rfl) Try.results26 ?_
  simp -dsimp [go_sem]
theorem pend_Next_nil (w : World) : Calls Try.prog 27 #[.pointer none] w fun r w' => r = .returned (.int .i64 0) ∧ w = w' := by
  refine calls_rx h27 Try.func27 rfl Try.mixed (by kernel_rfl) Try.results27 ?_
  simp -dsimp [go_sem]
theorem pend_Head_nil (w : World) : Calls Try.prog 23 #[.pointer none] w fun r w' => r = .returned (.tuple #[(default : Ef).val (.slice none 0 0), .int .i64 0, .bool false]) ∧ Keep w w' := by
  refine calls_rx h23 Try.func23 rfl Try.mixed (by kernel_rfl) Try.results23 ?_
  simp -dsimp [go_sem]
  refine (pend_Len_nil _).mono ?_; rintro e w1 ⟨rfl, rfl⟩; refine ret_intro ?_
  simp -dsimp [go_sem]
  exact ⟨rfl, keep_alloc w _⟩
theorem pend_Pop_nil (w : World) : Calls Try.prog 21 #[.pointer none] w fun r w' => r = .returned (.bool false) ∧ w = w' := by
  refine calls_rx h21 Try.func21 rfl Try.mixed (by kernel_rfl) Try.results21 ?_
  simp -dsimp [go_sem]
  refine (pend_Len_nil _).mono ?_; rintro e w1 ⟨rfl, rfl⟩; refine ret_intro ?_
  simp -dsimp [go_sem]
theorem pend_Add_nil (e : Ef) (d : Value) (id : Int) (w : World) : Calls Try.prog 22 #[.pointer none, e.val d, .int .i64 id] w fun r w' => r = .returned (.int .i64 0) ∧ Keep w w' := by
  refine calls_rx h22 Try.func22 rfl Try.mixed (by kernel_rfl) Try.results22 ?_
  unfold Ef.val Ef.enc
  simp -dsimp [go_sem]
  exact keep_alloc w _
theorem pend_Last_nil (ino : Int) (w : World) : Calls Try.prog 28 #[.pointer none, .int .i64 ino] w fun r w' => r = .returned (.int .i64 0) ∧ w = w' := by
  refine calls_rx h28 Try.func28 rfl Try.mixed (by kernel_rfl) Try.results28 ?_
  simp -dsimp [go_sem]
  refine (pend_Gone_nil _).mono ?_; rintro e w1 ⟨rfl, rfl⟩; refine ret_intro ?_
  simp -dsimp [go_sem]
theorem pend_All_nil (w : World) : Calls Try.prog 30 #[.pointer none] w fun r w' => r = .returned (.slice none 0 0) ∧ w = w' := by
  refine calls_rx h30 Try.func30 rfl Try.mixed (by kernel_rfl) Try.results30 ?_
  simp -dsimp [go_sem]
/-- A list is made. -/
theorem pend_new (w : World) : Pend.At (w.alloc (.cells #[.slice none 0 0, .int .i64 0] 50)) (fun k => k = w.heap.size) w.heap.size [] 0 :=
  ⟨⟨_, heap_alloc_new w _, OwnS.nil _ _ _, by simp [Value.ownBlock]⟩, rfl, by rintro k rfl; simp⟩
theorem sumplaw21_awake (w : World) : Calls Try.prog 19 #[] w fun r w' => r = .returned (.bool true) ∧ Keep w w' := by
  refine calls_rx h19 Try.func19 rfl Try.mixed (by kernel_rfl) Try.results19 ?_
  simp -dsimp [go_sem]
  refine (pend_Add _ _ [] 0 ⟨8, 3, 0, 0, 0, 0, .empty, .empty⟩ (.slice none 0 0) 0 _ (pend_new w) (by omega) (by omega) (by simp)).mono ?_; rintro e w1 ⟨rfl, O1, h1, k1, b1⟩; refine ret_intro ?_
  simp -dsimp [go_sem]
  refine (pend_Next _ _ _ _ _ h1 (by omega) (by simp)).mono ?_; rintro e w2 ⟨rfl, k2⟩; refine ret_intro ?_
  simp -dsimp [go_sem]
  refine (pend_Last _ _ _ _ 3 _ (h1.keep k2) (by omega) (by omega) (by simp)).mono ?_; rintro e w3 ⟨rfl, k3⟩; refine ret_intro ?_
  have hl : lastN ([⟨⟨8, 3, 0, 0, 0, 0, .empty, .empty⟩, 0⟩].map (fun x : POne => x.e)) 3 0 1 = 1 := rfl
  simp at hl
  simp -dsimp [go_sem, hl]
  have k0 := (keep_alloc w (.cells #[.slice none 0 0, .int .i64 0] 50)).keep k1 (fun i q => by rw [q]; exact Nat.le_refl _)
  trace_state
  exact Keep.trans k0 (Keep.trans k2 k3)
end Go.Proofs.Ythchaodakfnbbaa
