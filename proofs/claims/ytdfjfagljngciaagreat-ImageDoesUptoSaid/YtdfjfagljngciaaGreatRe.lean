/- The reference's state: what it is in memory; its nodes by number. Rows of one's own: a whole element is written over. The reference's state: kinds, names, names put and cut. The reference's state: a copy, a new one. The reference's state: a node goes; within. -/
import Derived.Test.YtdfjfagljngciaaGreatRa
import Derived.Test.YtdfjfagljngciaaGreatStq
set_option linter.all false
set_option maxRecDepth 100000
set_option maxHeartbeats 4000000
namespace Go.Proofs.YtdfjfagljngciaaGreat
open Go.RowKit Rx Go.MapKept

theorem Cs.put {α : Type} {r : Rep α} {X O : Nat → Prop} {w w' : World} {y : α} {ys : List Value} (hs : Step O w w') (ho : ∀ k, O k → X k) (hy : r.R X w y ys) : ∀ {l : List α} {xs : List Value} {i : Nat}, i < l.length → Cs r X w l xs → Cs r X w' (l.set i y) (xs.take (i * r.n) ++ ys ++ xs.drop (i * r.n + r.n))
  | [], _, _, h, _ => by simp at h
  | x :: l, xs, 0, _, h => by
    obtain ⟨cs, xs', rfl, h1, h2⟩ := h.uncons
    have := r.len h1
    rw [Nat.zero_mul, List.take_zero, List.nil_append, Nat.zero_add, List.drop_append, show cs.drop r.n = [] from List.drop_eq_nil_of_le (by omega), show r.n - cs.length = 0 by omega]
    exact Cs.cons (r.step hy hs ho) (h2.step hs ho)
  | x :: l, xs, i + 1, hi, h => by
    obtain ⟨cs, xs', rfl, h1, h2⟩ := h.uncons
    have hc := r.len h1
    have ih := Cs.put hs ho hy (i := i) (by simpa using hi) h2
    rw [List.set_cons_succ, List.take_append (l₁ := cs), List.take_of_length_le (l := cs) (by rw [hc, Nat.add_mul]; omega), show (i + 1) * r.n - cs.length = i * r.n from by rw [hc, Nat.add_mul]; omega, List.drop_append (l₁ := cs),
      show cs.drop ((i + 1) * r.n + r.n) = [] from List.drop_eq_nil_of_le (by rw [hc, Nat.add_mul]; omega), show (i + 1) * r.n + r.n - cs.length = i * r.n + r.n from by rw [hc, Nat.add_mul]; omega]
    simpa [List.append_assoc] using Cs.cons (r.step h1 hs ho) ih
theorem Cs.at {α : Type} {r : Rep α} {X : Nat → Prop} {w : World} : ∀ {l : List α} {xs : List Value} {i : Nat} {x : α}, l[i]? = some x → Cs r X w l xs → r.R X w x ((xs.drop (i * r.n)).take r.n)
  | [], _, _, _, h, _ => by simp at h
  | x :: l, xs, 0, y, h, hc => by
    obtain ⟨cs, xs', rfl, h1, h2⟩ := hc.uncons
    simp at h; subst h
    rw [Nat.zero_mul, List.drop_zero, List.take_append, List.take_of_length_le (by rw [r.len h1]; exact Nat.le_refl _), r.len h1]
    simpa using h1
  | x :: l, xs, i + 1, y, h, hc => by
    obtain ⟨cs, xs', rfl, h1, h2⟩ := hc.uncons
    have hl := r.len h1
    rw [List.drop_append, show cs.drop ((i + 1) * r.n) = [] from List.drop_eq_nil_of_le (by rw [hl, Nat.add_mul]; omega), show (i + 1) * r.n - cs.length = i * r.n from by rw [hl, Nat.add_mul]; omega]
    simpa using Cs.at (by simpa using h) h2
/-- One cell of an element is written over. -/
theorem Ow.put1 {α : Type} {r : Rep α} {e : TypeId} {X : Nat → Prop} {w : World} {v : Value} {l : List α} (h : Ow r e X w v l) (hX : ∀ g, ownB v = some g → X g) {i : Nat} {x : α} (hx : l[i]? = some x) :
    ∃ g off c cs, v = .slice (some ⟨g, off, none⟩) l.length c ∧ g < w.heap.size ∧ ownB v = some g ∧ r.R X w x cs ∧ (∀ j u, cs[j]? = some u → w.cell? ⟨g, off + i * r.n + j, none⟩ = some u) ∧ (∀ j, w.frozen? ⟨g, j, none⟩ = false) ∧
      ∀ j u y, j < r.n → r.R X w y (cs.set j u) → Ow r e X (w.setCell ⟨g, off + i * r.n + j, none⟩ u) v (l.set i y) := by
  have hi := (List.getElem?_eq_some_iff.1 hx).1
  rcases h.split with ⟨a, rfl, rfl, -⟩ | ⟨xs, h1, h2, hb⟩
  · simp at hi
  · obtain ⟨a, c, rfl, hc, hm, hs⟩ := h1.slice
    obtain ⟨g, off, rfl, hg, hob, hcell, hfr⟩ := hs (by omega)
    have hR := h2.at hx
    have hlen : xs.length = l.length * r.n := h1.1
    have hmul : i * r.n + r.n ≤ l.length * r.n := by rw [← Nat.succ_mul]; exact Nat.mul_le_mul_right _ hi
    refine ⟨g, off, c, _, rfl, hg, by rw [hb, hob], hR, fun j u hu => ?_, hfr, fun j u y hj hy => .inr ⟨xs.take (i * r.n) ++ ((xs.drop (i * r.n)).take r.n).set j u ++ xs.drop (i * r.n + r.n), ?_, ?_⟩⟩
    · rw [Nat.add_assoc]
      refine hcell _ _ ?_
      rw [List.getElem?_take] at hu
      split at hu
      · rwa [List.getElem?_drop] at hu
      · cases hu
    · have hw := (h1.write (i := i * r.n + j) (ys := [u]) (by simp; omega)).1
      rw [List.length_set]
      have e1 : xs.take (i * r.n) ++ ((xs.drop (i * r.n)).take r.n).set j u ++ xs.drop (i * r.n + r.n) = xs.take (i * r.n + j) ++ [u] ++ xs.drop (i * r.n + j + [u].length) := by
        apply List.ext_getElem?
        intro q
        simp only [List.getElem?_append, List.getElem?_take, List.getElem?_drop, List.getElem?_set, List.length_append, List.length_take, List.length_set, List.length_drop, List.length_singleton]
        repeat' split
        all_goals first | rfl | omega | (congr 1; omega) | (exfalso; omega) | (rw [show q - min (i * r.n + j) xs.length = 0 from by omega]; rfl)
      rw [e1]
      have e2 : w.setCell ⟨g, off + i * r.n + j, none⟩ u = w.setCells g (off + (i * r.n + j)) [u] := by rw [← Nat.add_assoc]; rfl
      rw [e2]; exact hw
    · exact Cs.put (O := fun k => k = g) ((Step.refl (fun k => k = g) w).set (.inl rfl) u) (fun k q => by subst q; exact hX _ (by rw [hb, hob])) hy hi h2
/-- The reference's state in memory: its block b, its row v. X: the blocks that somebody writes. -/
structure RAt (w : World) (X : Nat → Prop) (b : Nat) (v : Value) (s : St) : Prop where
  hb : w.heap[b]? = some (.cells #[v, .int .i64 s.last] 86 (0, 0))
  ho : Ow rNode 42 X w v s.L
  xv : ∀ g, ownB v = some g → X g
  xb : X b
  xl : ∀ k, X k → k < w.heap.size
theorem RAt.ne {w : World} {X : Nat → Prop} {b : Nat} {v : Value} {s : St} (h : RAt w X b v s) {g : Nat} (hg : ownB v = some g) : g ≠ b := h.ho.ne_box h.hb (by decide) hg
theorem RAt.step {O X : Nat → Prop} {w w' : World} {b : Nat} {v : Value} {s : St} (h : RAt w X b v s) (hs : Step O w w') (ho : ∀ k, O k → X k) (hb : ¬ O b) (hv : ∀ g, ownB v = some g → ¬ O g) : RAt w' X b v s :=
  ⟨hs.blk h.hb hb, h.ho.step hs ho hv, h.xv, h.xb, fun k q => Nat.lt_of_lt_of_le (h.xl k q) hs.size⟩
theorem RAt.keep {X : Nat → Prop} {w w' : World} {b : Nat} {v : Value} {s : St} (h : RAt w X b v s) (hs : Keep w w') : RAt w' X b v s := h.step hs (fun _ q => q.elim) id (fun _ _ q => q)
def idxL : List Node → Int → Option Nat
  | [], _ => none
  | x :: l, k => if x.ino = k then some 0 else (idxL l k).map (· + 1)
theorem idxL_getL : ∀ {L : List Node} {k : Int}, (idxL L k = none ∧ getL L k = none) ∨ ∃ i x, idxL L k = some i ∧ L[i]? = some x ∧ getL L k = some x ∧ x.ino = k ∧ ∀ y ∈ L.take i, y.ino ≠ k
  | [], k => .inl ⟨rfl, rfl⟩
  | x :: L, k => by
    rw [show getL (x :: L) k = if x.ino = k then some x else getL L k from by
      unfold getL
      rw [List.find?_cons]
      split
      · rename_i h; simp at h; rw [if_pos h]
      · rename_i h; simp at h; rw [if_neg h]]
    unfold idxL
    by_cases g : x.ino = k
    · rw [if_pos g, if_pos g]
      exact .inr ⟨0, x, rfl, rfl, rfl, g, by simp⟩
    · rw [if_neg g, if_neg g]
      rcases idxL_getL (L := L) (k := k) with ⟨h1, h2⟩ | ⟨i, y, h1, h2, h3, h4, h5⟩
      · exact .inl ⟨by rw [h1]; rfl, h2⟩
      · refine .inr ⟨i + 1, y, by rw [h1]; rfl, by simpa using h2, h3, h4, fun z hz => ?_⟩
        rw [List.take_succ_cons] at hz
        rcases List.mem_cons.1 hz with rfl | hz
        · exact g
        · exact h5 z hz
def atI (L : List Node) (k : Int) : Int := (idxL L k).elim (-1) (fun i => (i : Int))
theorem atI_at {L : List Node} {k : Int} {i : Nat} {x : Node} (hx : L[i]? = some x) (hk : x.ino = k) (hn : ∀ y ∈ L.take i, y.ino ≠ k) : atI L k = i := by
  rcases idxL_getL (L := L) (k := k) with ⟨-, h2⟩ | ⟨j, y, h1, h2, h3, h4, h5⟩
  · exact absurd hk (getL_none h2 x (List.mem_of_getElem? hx))
  · have : j = i := by
      rcases Nat.lt_trichotomy j i with g | g | g
      · exact absurd h4 (hn y (List.mem_of_getElem? (by rw [List.getElem?_take, if_pos g]; exact h2)))
      · exact g
      · exact absurd hk (h5 x (List.mem_of_getElem? (by rw [List.getElem?_take, if_pos g]; exact hx)))
    subst this
    simp [atI, h1]
theorem atI_no {L : List Node} {k : Int} (hn : ∀ y ∈ L, y.ino ≠ k) : atI L k = -1 := by
  rcases idxL_getL (L := L) (k := k) with ⟨h1, -⟩ | ⟨j, y, h1, h2, h3, h4, h5⟩
  · simp [atI, h1]
  · exact absurd h4 (hn y (List.mem_of_getElem? h2))
/-- An element of a row of one's own, read. -/
theorem Ow.node {X : Nat → Prop} {w : World} {v : Value} {l : List Node} (h : Ow rNode 42 X w v l) (hX : ∀ g, ownB v = some g → X g) {i : Nat} {x : Node} (hx : l[i]? = some x) :
    ∃ g off c p m, v = .slice (some ⟨g, off, none⟩) l.length c ∧ g < w.heap.size ∧ ownB v = some g ∧ x.ok ∧ Sl rInt X w p x.pages ∧ Sl rEntry X w m x.names ∧
      w.cell? ⟨g, off + i * 7, none⟩ = some (.int .i64 x.ino) ∧ w.cell? ⟨g, off + i * 7 + 1, none⟩ = some (.int .i64 x.kind) ∧ w.cell? ⟨g, off + i * 7 + 2, none⟩ = some (.int .i64 x.links) ∧ w.cell? ⟨g, off + i * 7 + 3, none⟩ = some (.int .i64 x.size) ∧ w.cell? ⟨g, off + i * 7 + 4, none⟩ = some (.int .i64 x.up) ∧
      w.cell? ⟨g, off + i * 7 + 5, none⟩ = some p ∧ w.cell? ⟨g, off + i * 7 + 6, none⟩ = some m ∧ (∀ j, w.frozen? ⟨g, j, none⟩ = false) ∧
      ∀ j u y, j < 7 → rNode.R X w y ((x.enc p m).set j u) → Ow rNode 42 X (w.setCell ⟨g, off + i * 7 + j, none⟩ u) v (l.set i y) := by
  obtain ⟨g, off, c, cs, rfl, hg, hb, hR, hc, hf, hp⟩ := h.put1 hX hx
  obtain ⟨p, m, rfl, h1, h2, hok⟩ := id hR
  exact ⟨g, off, c, p, m, rfl, hg, hb, hok, h1, h2, hc 0 _ rfl, hc 1 _ rfl, hc 2 _ rfl, hc 3 _ rfl, hc 4 _ rfl, hc 5 _ rfl, hc 6 _ rfl, hf, hp⟩
theorem ref_At (X : Nat → Prop) (b : Nat) (v : Value) (s : St) (k : Int) (hl : s.L.length ≤ 2 ^ 40) (w : World) (h : RAt w X b v s) :
    Calls Tryz.prog 90 #[.pointer (some ⟨b, 0, none⟩), .int .i64 k] w fun r w' => r = .returned (.int .i64 (atI s.L k)) ∧ Keep w w' := by
  have H0 := h.hb
  obtain ⟨a, c, rfl, -⟩ := h.ho.slice
  refine calls_rx h90 Tryz.func90 rfl Tryz.mixed (by kernel_rfl) Tryz.results90 ?_
  have H0c := blk_cell H0; have H0f := blk_free H0; have H0l := blk_lt H0
  simp -dsimp [go_sem, H0c, H0f, H0l]
  refine loop_intro (σ := Nat) (fun i => [.int .i64 i]) (fun i w' => i ≤ s.L.length ∧ Keep w w' ∧ ∀ y ∈ s.L.take i, y.ino ≠ k) (fun i => s.L.length - i) 0 (by simp -dsimp [go_sem]; rfl) (by simp -dsimp [go_sem]) ⟨by simp, Keep.refl w, by simp⟩ ?_
  rintro i w1 ⟨hi, k1, hno⟩
  simp -dsimp [go_sem]
  by_cases g1 : i < s.L.length
  · have hx : s.L[i]? = some s.L[i] := List.getElem?_eq_getElem _
    generalize s.L[i] = x at hx
    obtain ⟨g, off, c', p, m, e, hg, hgo, hok, hp, hm, c0, c1, c2, c3, c4, c5, c6, hf, -⟩ := (h.ho.keep k1).node h.xv hx
    cases e
    obtain ⟨pa, pc, rfl, -⟩ := id hp
    obtain ⟨ma, mc, rfl, -⟩ := id hm
    have i2 : (i : Int) < s.L.length := by omega
    by_cases g2 : x.ino = k
    · have := atI_at hx g2 hno
      simp -dsimp [go_sem, g1, i2, hg, hf, c0, c1, c2, c3, c4, c5, c6, g2, this]
      exact k1.alloc _
    · simp -dsimp [go_sem, g1, i2, hg, hf, c0, c1, c2, c3, c4, c5, c6, g2]
      try simp -dsimp (disch := omega) only [IntWalk.i64_in, IntWalk.u64_in, IntWalk.u8_in]
      refine back_intro (i + 1) (by simp -dsimp [go_sem]) (by simp -dsimp [go_sem]) ⟨by omega, k1.alloc _, fun y hy => ?_⟩ (by omega)
      rw [List.take_add_one, hx] at hy
      rcases List.mem_append.1 hy with q | q
      · exact hno y q
      · simp at q; subst q; exact g2
  · obtain rfl : i = s.L.length := by omega
    rw [List.take_length] at hno
    have := atI_no hno
    simp -dsimp [go_sem, Nat.lt_irrefl, this]
    exact k1
end Go.Proofs.YtdfjfagljngciaaGreat

set_option linter.all false
set_option maxRecDepth 100000
set_option maxHeartbeats 4000000
namespace Go.Proofs.YtdfjfagljngciaaGreat
open Go.RowKit Rx Go.MapKept

theorem Ow.putAll {α : Type} {r : Rep α} {e : TypeId} {X : Nat → Prop} {w : World} {l : List α} {g off c : Nat} (h : Ow r e X w (.slice (some ⟨g, off, none⟩) l.length c) l) (hX : ∀ g', ownB (.slice (some ⟨g, off, none⟩) l.length c) = some g' → X g') {i : Nat} (hi : i < l.length) {y : α} {ys : List Value} (hy : r.R X w y ys) :
    Ow r e X (w.setCells g (off + i * r.n) ys) (.slice (some ⟨g, off, none⟩) l.length c) (l.set i y) ∧ Step (· = g) w (w.setCells g (off + i * r.n) ys) := by
  rcases h.split with ⟨a, q, rfl, -⟩ | ⟨xs, h1, h2, hb⟩
  · simp at hi
  · have hlen := r.len hy
    have hmul : i * r.n + r.n ≤ l.length * r.n := by rw [← Nat.succ_mul]; exact Nat.mul_le_mul_right _ hi
    have hgX : X g := hX g (by rw [hb]; rfl)
    have hw := h1.write (i := i * r.n) (ys := ys) (by omega)
    refine ⟨.inr ⟨_, ?_, Cs.put (O := fun k => k = g) hw.2 (fun k q => by rw [q]; exact hgX) hy hi h2⟩, hw.2⟩
    have := hw.1
    rw [hlen] at this
    rw [List.length_set]
    exact this
end Go.Proofs.YtdfjfagljngciaaGreat

set_option linter.all false
set_option maxRecDepth 100000
set_option maxHeartbeats 4000000
namespace Go.Proofs.YtdfjfagljngciaaGreat
open Go.RowKit Rx Go.MapKept

theorem at_cases (L : List Node) (k : Int) : (atI L k = -1 ∧ getL L k = none) ∨ ∃ i x, atI L k = (i : Nat) ∧ L[i]? = some x ∧ getL L k = some x := by
  rcases idxL_getL (L := L) (k := k) with ⟨h1, h2⟩ | ⟨i, x, h1, h2, h3, h4, h5⟩
  · exact .inl ⟨by simp [atI, h1], h2⟩
  · exact .inr ⟨i, x, by simp [atI, h1], h2, h3⟩
theorem set_setL {L : List Node} (hs : L.Pairwise (fun a b => a.ino < b.ino)) {i : Nat} {x y : Node} (hx : L[i]? = some x) (hy : y.ino = x.ino) : L.set i y = setL L y := by
  have hg : (getL L y.ino).isSome = true := by
    rw [hy, getL_mem (srt_inos hs) (List.mem_of_getElem? hx)]; rfl
  rw [setL_len hg]
  apply List.ext_getElem?
  intro j
  rw [List.getElem?_set, List.getElem?_map]
  have hi := (List.getElem?_eq_some_iff.1 hx)
  by_cases e : i = j
  · subst e
    rw [if_pos rfl, if_pos hi.1, hx]
    simp [hy]
  · rw [if_neg e]
    cases hj : L[j]? with
    | none => rfl
    | some z =>
      have hj' := List.getElem?_eq_some_iff.1 hj
      have : z.ino ≠ y.ino := by
        rw [hy, ← hi.2, ← hj'.2]
        rcases Nat.lt_or_gt_of_ne e with g | g
        · have := List.pairwise_iff_getElem.1 hs i j hi.1 hj'.1 g; omega
        · have := List.pairwise_iff_getElem.1 hs j i hj'.1 hi.1 g; omega
      simp [this]
def kindS (s : St) (k : Int) : Int := (dirN s k).kind
theorem kindS_dir (s : St) (k : Int) : decide (kindS s k = 2) = isDir s k := by
  unfold kindS isDir dirN
  cases hg : getL s.L k with
  | none => simp [node0]
  | some n => simp
theorem kindS_file (s : St) (k : Int) : decide (kindS s k = 1) = isFile s k := by
  unfold kindS isFile dirN
  cases hg : getL s.L k with
  | none => simp [node0]
  | some n => simp
theorem ref_kind (X : Nat → Prop) (b : Nat) (v : Value) (s : St) (k : Int) (hl : s.L.length ≤ 2 ^ 40) (w : World) (h : RAt w X b v s) :
    Calls Tryz.prog 91 #[.pointer (some ⟨b, 0, none⟩), .int .i64 k] w fun r w' => r = .returned (.int .i64 (kindS s k)) ∧ Keep w w' := by
  unfold kindS dirN
  refine calls_rx h91 Tryz.func91 rfl Tryz.mixed (by kernel_rfl) Tryz.results91 ?_
  simp -dsimp [go_sem]
  refine (ref_At X b v s k hl w h).mono ?_; rintro _ w1 ⟨rfl, k1⟩; refine ret_intro ?_
  have h1 := h.keep k1
  have H1 := h1.hb
  rcases at_cases s.L k with ⟨e1, e2⟩ | ⟨i, x, e1, e2, e3⟩
  · rw [e1, e2]
    simp -dsimp [go_sem]
    exact ⟨rfl, k1⟩
  · rw [e1, e3]
    have hi := (List.getElem?_eq_some_iff.1 e2).1
    obtain ⟨g, off, c', p, m, rfl, hg, hgo, hok, hp, hm, c0, c1, c2, c3, c4, c5, c6, hf, -⟩ := h1.ho.node h.xv e2
    have i2 : (i : Int) < s.L.length := by omega
    have i3 : ¬ (i : Int) < 0 := by omega
    have H1c := blk_cell H1; have H1f := blk_free H1; have H1l := blk_lt H1
    simp -dsimp [go_sem, H1c, H1f, H1l, hg, hi, i2, i3, c0, c1, c2, c3, c4, c5, c6]
    exact k1
def namedS (s : St) (dir : Int) (nm : ByteArray) : Int := if isDir s dir = true then (findN (dirN s dir).names nm).1 else 0
theorem ref_named (X : Nat → Prop) (b : Nat) (v : Value) (s : St) (dir : Int) (nm : ByteArray) (hl : s.L.length ≤ 2 ^ 40) (w : World) (h : RAt w X b v s) :
    Calls Tryz.prog 92 #[.pointer (some ⟨b, 0, none⟩), .int .i64 dir, .string nm] w fun r w' => r = .returned (.int .i64 (namedS s dir nm)) ∧ Keep w w' := by
  unfold namedS
  rw [← kindS_dir]
  refine calls_rx h92 Tryz.func92 rfl Tryz.mixed (by kernel_rfl) Tryz.results92 ?_
  simp -dsimp [go_sem]
  refine (ref_kind X b v s dir hl w h).mono ?_; rintro _ w1 ⟨rfl, k1⟩; refine ret_intro ?_
  by_cases g1 : kindS s dir = 2
  rotate_left
  · have : ¬ decide (kindS s dir = 2) = true := by simpa using g1
    rw [if_neg this]
    simp -dsimp [go_sem, g1]
    exact k1
  rw [if_pos (decide_eq_true g1)]
  have h1 := h.keep k1
  have H1 := h1.hb
  obtain ⟨va, vc, rfl, -⟩ := h.ho.slice
  have H1c := blk_cell H1; have H1f := blk_free H1; have H1l := blk_lt H1
  simp -dsimp [go_sem, H1c, H1f, H1l, g1]
  refine (ref_At X b _ s dir hl w1.drew (h1.keep (keep_drew w1))).mono ?_; rintro _ w2 ⟨rfl, k2⟩; refine ret_intro ?_
  have k12 := Keep.trans (keep_drew w1) k2
  refine ⟨Keep.agree k12 (Agree.refl _), ?_⟩
  have h2 := h1.keep k12
  have hdir : isDir s dir = true := by rw [← kindS_dir]; exact decide_eq_true g1
  rcases at_cases s.L dir with ⟨e1, e2⟩ | ⟨i, x, e1, e2, e3⟩
  · have := (isDir_some hdir).1; rw [e2] at this; cases this
  · rw [e1, dirN_some e3]
    have hi := (List.getElem?_eq_some_iff.1 e2).1
    obtain ⟨g, off, c', p, m, e, hg, hgo, hok, hp, hm, c0, c1, c2, c3, c4, c5, c6, hf, -⟩ := h2.ho.node h.xv e2
    cases e
    have i2 : (i : Int) < s.L.length := by omega
    simp -dsimp [go_sem, hg, hi, i2, c6]
    refine ⟨Keep.agree k12 (Agree.refl _), ?_⟩
    refine (ref_Find X m x.names nm w2 hm).mono ?_; rintro _ w3 ⟨rfl, k3⟩; refine ret_intro ?_
    simp -dsimp [go_sem]
    refine ⟨Keep.agree (Keep.trans k12 k3) (Agree.refl _), ?_⟩
    exact Keep.trans k1 (Keep.trans k12 k3)
theorem ref_put (X : Nat → Prop) (b : Nat) (v : Value) (s : St) (dir : Int) (nm : ByteArray) (ino : Int) (hio : I64 ino) (hl : s.L.length ≤ 2 ^ 40) (hs : s.L.Pairwise (fun a b => a.ino < b.ino)) (hn : ∀ n ∈ s.L, n.names.length ≤ 2 ^ 39) (hd : isDir s dir = true) (w : World) (h : RAt w X b v s) :
    Calls Tryz.prog 93 #[.pointer (some ⟨b, 0, none⟩), .int .i64 dir, .string nm, .int .i64 ino] w fun r w' => (∃ u, r = .returned u) ∧ RAt w' X b v ⟨setL s.L { dirN s dir with names := (putE (dirN s dir).names nm ino).1 }, s.last⟩ ∧ Step (fun k => ownB v = some k) w w' := by
  refine calls_rx h93 Tryz.func93 rfl Tryz.mixed (by kernel_rfl) Tryz.results93 ?_
  simp -dsimp [go_sem]
  refine (ref_At X b v s dir hl w h).mono ?_; rintro _ w1 ⟨rfl, k1⟩; refine ret_intro ?_
  have h1 := h.keep k1
  have H1 := h1.hb
  rcases at_cases s.L dir with ⟨e1, e2⟩ | ⟨i, x, e1, e2, e3⟩
  · have := (isDir_some hd).1; rw [e2] at this; cases this
  rw [e1, dirN_some e3]
  have hi := (List.getElem?_eq_some_iff.1 e2).1
  obtain ⟨g, off, c', p, m, rfl, hg, hgo, hok, hp, hm, c0, c1, c2, c3, c4, c5, c6, hf, hset⟩ := h1.ho.node h.xv e2
  have i2 : (i : Int) < s.L.length := by omega
  have H1c := blk_cell H1; have H1f := blk_free H1; have H1l := blk_lt H1
  simp -dsimp [go_sem, H1c, H1f, H1l, hg, hi, i2, c6]
  obtain ⟨pa, pc, rfl, -⟩ := id hm
  refine (ref_PutEntry X _ x.names nm ino hio w1.drew h1.xl (hm.keep (keep_drew w1)) (hn x (List.mem_of_getElem? e2))).mono ?_; rintro _ w2 ⟨v', rfl, hm2, k2⟩; refine ret_intro ?_
  have k12 := Keep.trans (keep_drew w1) k2
  refine ⟨Keep.agree k12 (Agree.refl _), ?_⟩
  have h2 := h1.keep k12
  have H2 := h2.hb
  obtain ⟨ma, mc, rfl, -⟩ := id hm2
  clear H1c H1f H1l
  obtain ⟨g', off', c'', p', m', e, hg', hgo', hok', hp', hm', d0, d1, d2, d3, d4, d5, d6, hf', hset'⟩ := h2.ho.node h.xv e2
  cases e
  have H2c := blk_cell H2; have H2f := blk_free H2; have H2l := blk_lt H2
  simp -dsimp [go_sem, H2c, H2f, H2l, hg', hi, i2, d6, hf']
  have hy : rNode.R X w2 { x with names := (putE x.names nm ino).1 } ((x.enc p' m').set 6 (.slice ma (putE x.names nm ino).1.length mc)) := ⟨p', _, rfl, hp', hm2, hok'⟩
  have hw := hset' 6 _ _ (by decide) hy
  rw [set_setL hs e2 (y := { x with names := (putE x.names nm ino).1 }) rfl] at hw
  have hgb := h2.ne hgo'
  refine ⟨⟨blk_far H2 (fun q => hgb q.symm) _, hw, h2.xv, h2.xb, fun k q => ?_⟩, Step.set (Step.trans (O := fun k => ownB _ = some k) (Keep.any k1) k12.any (fun _ _ q => q)) (.inl hgo') _⟩
  have := h2.xl k q
  simp [World.setCell]; omega
theorem ref_cut (X : Nat → Prop) (b : Nat) (v : Value) (s : St) (dir : Int) (nm : ByteArray) (hl : s.L.length ≤ 2 ^ 40) (hs : s.L.Pairwise (fun a b => a.ino < b.ino)) (hn : ∀ n ∈ s.L, n.names.length ≤ 2 ^ 39) (hd : isDir s dir = true) (w : World) (h : RAt w X b v s) :
    Calls Tryz.prog 125 #[.pointer (some ⟨b, 0, none⟩), .int .i64 dir, .string nm] w fun r w' => (∃ u, r = .returned u) ∧ RAt w' X b v ⟨setL s.L { dirN s dir with names := (dropE (dirN s dir).names nm).1 }, s.last⟩ ∧ Step (fun k => ownB v = some k) w w' := by
  refine calls_rx h125 Tryz.func125 rfl Tryz.mixed (by kernel_rfl) Tryz.results125 ?_
  simp -dsimp [go_sem]
  refine (ref_At X b v s dir hl w h).mono ?_; rintro _ w1 ⟨rfl, k1⟩; refine ret_intro ?_
  have h1 := h.keep k1
  have H1 := h1.hb
  rcases at_cases s.L dir with ⟨e1, e2⟩ | ⟨i, x, e1, e2, e3⟩
  · have := (isDir_some hd).1; rw [e2] at this; cases this
  rw [e1, dirN_some e3]
  have hi := (List.getElem?_eq_some_iff.1 e2).1
  obtain ⟨g, off, c', p, m, rfl, hg, hgo, hok, hp, hm, c0, c1, c2, c3, c4, c5, c6, hf, hset⟩ := h1.ho.node h.xv e2
  have i2 : (i : Int) < s.L.length := by omega
  have H1c := blk_cell H1; have H1f := blk_free H1; have H1l := blk_lt H1
  simp -dsimp [go_sem, H1c, H1f, H1l, hg, hi, i2, c6]
  obtain ⟨pa, pc, rfl, -⟩ := id hm
  refine (ref_DropEntry X _ x.names nm w1.drew (hm.keep (keep_drew w1)) (Nat.le_trans (hn x (List.mem_of_getElem? e2)) (by decide))).mono ?_; rintro _ w2 ⟨v', rfl, ho2, k2, b2⟩; refine ret_intro ?_
  have hm2 : Sl rEntry X w2 v' (dropE x.names nm).1 := (ho2.all flat_entry).sl (fun q hq hx => by have := b2 q hq; have := h1.xl q hx; simp at *; omega)
  have k12 := Keep.trans (keep_drew w1) k2
  refine ⟨Keep.agree k12 (Agree.refl _), ?_⟩
  have h2 := h1.keep k12
  have H2 := h2.hb
  obtain ⟨ma, mc, rfl, -⟩ := id hm2
  clear H1c H1f H1l
  obtain ⟨g', off', c'', p', m', e, hg', hgo', hok', hp', hm', d0, d1, d2, d3, d4, d5, d6, hf', hset'⟩ := h2.ho.node h.xv e2
  cases e
  have H2c := blk_cell H2; have H2f := blk_free H2; have H2l := blk_lt H2
  simp -dsimp [go_sem, H2c, H2f, H2l, hg', hi, i2, d6, hf']
  have hy : rNode.R X w2 { x with names := (dropE x.names nm).1 } ((x.enc p' m').set 6 (.slice ma (dropE x.names nm).1.length mc)) := ⟨p', _, rfl, hp', hm2, hok'⟩
  have hw := hset' 6 _ _ (by decide) hy
  rw [set_setL hs e2 (y := { x with names := (dropE x.names nm).1 }) rfl] at hw
  have hgb := h2.ne hgo'
  refine ⟨⟨blk_far H2 (fun q => hgb q.symm) _, hw, h2.xv, h2.xb, fun k q => ?_⟩, Step.set (Step.trans (O := fun k => ownB _ = some k) (Keep.any k1) k12.any (fun _ _ q => q)) (.inl hgo') _⟩
  have := h2.xl k q
  simp [World.setCell]; omega
end Go.Proofs.YtdfjfagljngciaaGreat

set_option linter.all false
set_option maxRecDepth 100000
set_option maxHeartbeats 4000000
namespace Go.Proofs.YtdfjfagljngciaaGreat
open Go.RowKit Rx Go.MapKept

/-- One node more behind a row of one's own. -/
theorem app_node {X : Nat → Prop} {W : World} {v : Value} {l : List Node} {x : Node} {g : Nat} {cs : List Value} (hb : W.heap[g]? = some (.cells cs.toArray 42 (0, 0))) (hR : rNode.R X W x cs) (hgX : ¬ X g) (o1 : Ow rNode 42 X W v l) (hv : ∀ g, ownB v = some g → X g) (hl : l.length ≤ 2 ^ 40)
    {k : Value → World → Prop} {tk : Tag k} (hk : ∀ v' w', Ow rNode 42 (fun k => X k ∨ ownB v' = some k) w' v' (l ++ [x]) → Step (fun g => ownB v = some g) W w' → (∀ g, ownB v' = some g → (ownB v = some g ∨ W.heap.size ≤ g) ∧ g < w'.heap.size) → k v' w') :
    appF Tryz.prog #[84, 84] 84 (Shut k tk) v (.slice (some ⟨g, 0, none⟩) 1 1) W := by
  have hgl := blk_lt hb
  have hM : ∀ j, j < W.heap.size → (X j ∨ W.heap.size ≤ j) → X j := fun j hj q => q.resolve_right (by omega)
  have o2 : Ow rNode 42 (fun j => X j ∨ W.heap.size ≤ j) W v l := o1.mono hM
  refine app_rows 88 Tryz.underlying84 (by kernel_rfl) one_node o2 (Sl.of_blk (l := [x]) hb (fun q => q.elim hgX (fun q => by omega)) (Cs.one (rNode.mono hR hM)) rfl (by unfold maxLen; omega)) (by rw [List.length_singleton]; unfold maxLen; omega) (by rw [List.length_singleton]; omega) (fun g hg => .inl (hv g hg)) ?_
  intro v' w' h1 k2 b2
  refine hk v' w' (h1.mono (fun j hj q => ?_)) k2 (fun g hg => ⟨b2 g hg, h1.lt hg⟩)
  rcases q with q | q
  · exact .inl q
  · rcases b2 j q with q' | q'
    · exact .inl (hv j q')
    · exact .inr q'
theorem ref_New (X : Nat → Prop) (w : World) (hX : ∀ k, X k → k < w.heap.size) : Calls Tryz.prog 29 #[] w fun e w' => ∃ b v, e = .returned (.pointer (some ⟨b, 0, none⟩)) ∧ RAt w' (fun k => X k ∨ k = b ∨ ownB v = some k) b v st0 ∧ Keep w w' ∧ w.heap.size ≤ b ∧ ∀ g, ownB v = some g → w.heap.size ≤ g := by
  refine calls_rx h29 Tryz.func29 rfl Tryz.mixed (by kernel_rfl) Tryz.results29 ?_
  simp -dsimp [go_sem]
  generalize hW : (w.alloc _).alloc _ = W
  obtain ⟨N0, E0, k0, z0⟩ := alloc2 hW
  clear hW
  refine ⟨_, ⟨E0, ?_, fun g q => .inr (.inr q), .inr (.inl rfl), fun k q => ?_⟩, k0, fun g q => ?_⟩
  · have r0 : rNode.R (fun k => X k ∨ k = w.heap.size + 1 ∨ ownB (.slice (some ⟨w.heap.size, 0, none⟩) 1 1) = some k) W ⟨1, 2, 1, 0, 1, [], []⟩ ((⟨1, 2, 1, 0, 1, [], []⟩ : Node).enc (.slice none 0 0) (.slice none 0 0)) :=
      ⟨_, _, rfl, (Ow.nil rInt 0 _ W).sl (by simp [ownB]), (Ow.nil rEntry 0 _ W).sl (by simp [ownB]), by unfold Node.ok I64; simp⟩
    exact .inr ⟨_, ⟨rfl, .inr ⟨w.heap.size, 0, 1, _, rfl, N0, Nat.le_refl _, by decide, Nat.le_refl _, rfl⟩⟩, Cs.one r0⟩
  · rcases q with q | q | q
    · have := hX k q; omega
    · omega
    · simp [ownB] at q; omega
  · simp [ownB] at q; omega
theorem ref_Copy (X : Nat → Prop) (b : Nat) (v : Value) (s : St) (hl : s.L.length ≤ 2 ^ 20) (hn : ∀ n ∈ s.L, n.pages.length ≤ 2 ^ 40 ∧ n.names.length ≤ 2 ^ 40) (w : World) (h : RAt w X b v s) :
    Calls Tryz.prog 45 #[.pointer (some ⟨b, 0, none⟩)] w fun e w' => ∃ b' v', e = .returned (.pointer (some ⟨b', 0, none⟩)) ∧ RAt w' (fun k => X k ∨ k = b' ∨ ownB v' = some k) b' v' s ∧ Keep w w' ∧ w.heap.size ≤ b' ∧ ∀ g, ownB v' = some g → w.heap.size ≤ g := by
  have H0 := h.hb
  obtain ⟨a, c, rfl, -⟩ := h.ho.slice
  refine calls_rx h45 Tryz.func45 rfl Tryz.mixed (by kernel_rfl) Tryz.results45 ?_
  have H0c := blk_cell H0; have H0f := blk_free H0; have H0l := blk_lt H0
  simp -dsimp [go_sem, H0c, H0f, H0l]
  generalize hW : w.alloc _ = W
  obtain ⟨E0, k0, z0⟩ := alloc1 hW
  clear hW H0c H0f H0l
  have h0 := h.keep k0
  refine loop_intro (σ := Nat × Value) (fun t => [.int .i64 t.1]) (fun t w' => t.1 ≤ s.L.length ∧ Keep w w' ∧ w'.heap[w.heap.size]? = some (.cells #[t.2, .int .i64 s.last] 86 (0, 0)) ∧ Ow rNode 42 (fun k => X k ∨ k = w.heap.size ∨ ownB t.2 = some k) w' t.2 (s.L.take t.1) ∧ ∀ g, ownB t.2 = some g → w.heap.size < g ∧ g < w'.heap.size) (fun t => s.L.length - t.1) (0, .slice none 0 0) (by simp -dsimp [go_sem]; rfl) (by simp -dsimp [go_sem]) ⟨Nat.zero_le _, k0, E0, by simpa using Ow.nil _ _ _ _, by simp [ownB]⟩ ?_
  rintro ⟨i, v⟩ w1 ⟨hi, k1, B1, o1, b1⟩
  simp only at hi B1 o1 b1
  simp -dsimp [go_sem]
  by_cases g1 : i < s.L.length
  rotate_left
  · obtain rfl : i = s.L.length := by omega
    rw [List.take_length] at o1
    simp -dsimp [go_sem, Nat.lt_irrefl]
    have hxl := h.xl
    refine ⟨_, ⟨B1, o1, fun g q => .inr (.inr q), .inr (.inl rfl), fun k q => ?_⟩, k1, fun g q => by have := b1 g q; omega⟩
    rcases q with q | q | q
    · have := hxl k q; have := k1.size; omega
    · have := blk_lt B1; omega
    · exact (b1 k q).2
  have hx : s.L[i]? = some s.L[i] := List.getElem?_eq_getElem _
  generalize s.L[i] = x at hx
  have h1 := h.keep k1
  obtain ⟨g, off, c', p, m, e, hg, hgo, hok, hp, hm, c0, c1, c2, c3, c4, c5, c6, hf, -⟩ := h1.ho.node h.xv hx
  cases e
  obtain ⟨pa, pc, rfl, -⟩ := id hp
  obtain ⟨ma, mc, rfl, -⟩ := id hm
  have i2 : (i : Int) < s.L.length := by omega
  simp -dsimp [go_sem, g1, i2, hg, hf, c0, c1, c2, c3, c4, c5, c6]
  generalize hW : w1.alloc _ = w2
  obtain ⟨N2, k2, z2⟩ := alloc1 hW
  clear hW
  have B2 := k2.blk B1 (fun q => q)
  obtain ⟨va, vc, rfl, -⟩ := o1.slice
  have N2c := blk_cell N2; have N2f := blk_free N2; have N2l := blk_lt N2; have B2c := blk_cell B2; have B2f := blk_free B2; have B2l := blk_lt B2
  have hbm := B2l
  generalize hv : (Value.slice va (s.L.take i).length vc) = v at *
  obtain ⟨hk, hkc⟩ : ∃ hk : Nat, (∀ g, ownB v = some g → g = hk) ∧ hk ≠ w.heap.size ∧ hk ≠ w1.heap.size := by
    cases ho : ownB v with
    | none => exact ⟨w2.heap.size, by simp, by omega, by omega⟩
    | some g => have := b1 g ho; exact ⟨g, by simp, by omega, by omega⟩
  have hA : Agree (holed w2 hk) w2 := holed_agree (fun _ _ _ => rfl)
  refine blankF_intro (holed w2 hk) hA ?_
  have N3 := (holed_blk (w := w2) (b := hk) (by omega)).trans N2
  have B3 := (holed_blk (w := w2) (b := hk) (by omega)).trans B2
  clear N2c N2f N2l B2c B2f B2l
  have N3c := blk_cell N3; have N3f := blk_free N3; have N3l := blk_lt N3; have B3c := blk_cell B3; have B3f := blk_free B3; have B3l := blk_lt B3
  simp -dsimp [go_sem, N3c, N3f, N3l, B3c, B3f, B3l]
  have hr2 : rNode.R X w2.drew x (x.enc (.slice pa x.pages.length pc) (.slice ma x.names.length mc)) := rNode.keep (rNode.keep ⟨_, _, rfl, hp, hm, hok⟩ k2) (keep_drew w2)
  have hxn := hn x (List.mem_of_getElem? hx)
  refine (ref_CopyNode X x _ w2.drew hr2 hxn.1 hxn.2).mono ?_; rintro _ w3 ⟨p3, m3, rfl, n3, k3⟩; refine ret_intro ?_
  have k23 := Keep.trans (keep_drew w2) k3
  refine ⟨holed_agree (fun j hj hne => k23.block j hj (fun q => q)), ?_⟩
  obtain ⟨pa3, pc3, ma3, mc3, rfl, rfl, -⟩ := n3.slices
  unfold Node.enc
  simp -dsimp [go_sem]
  generalize hW : w3.alloc _ = w4
  obtain ⟨N4, k4, z4⟩ := alloc1 hW
  clear hW
  have k24 := Keep.trans k2 (Keep.trans k23 k4)
  have hxl := h.xl
  have l1 := k1.size
  have l23 := k23.size
  have hX1 : ∀ j, (X j ∨ j = w.heap.size ∨ ownB v = some j) → j < w1.heap.size := fun j q => by
    rcases q with q | q | q
    · have := hxl j q; omega
    · have := blk_lt B1; omega
    · exact (b1 j q).2
  have hR4 := (n3.keep k4).rep (X := fun k => X k ∨ k = w.heap.size ∨ ownB v = some k) hok (fun j _ q => by have := hX1 j q; show j < w2.heap.size; omega)
  have hli : (s.L.take i).length ≤ 2 ^ 40 := Nat.le_trans (List.length_take_le' i s.L) (Nat.le_trans hl (by decide))
  refine ⟨holed_agree (fun j hj hne => (Keep.trans k23 k4).block j hj (fun q => q)), ?_⟩
  refine app_node (X := fun k => X k ∨ k = w.heap.size ∨ ownB v = some k) (cs := x.enc (.slice pa3 x.pages.length pc3) (.slice ma3 x.names.length mc3)) N4 hR4 (fun q => by have := hX1 _ q; omega) (o1.keep k24) (fun g q => .inr (.inr q)) hli ?_
  intro v' w5 o5 s5 b5
  have B5 := s5.blk ((Keep.trans k23 k4).blk B2 (fun q => q)) (fun q => by have := b1 _ q; omega)
  have l5 := s5.size
  have htk : s.L.take (i + 1) = s.L.take i ++ [x] := by rw [List.take_add_one, hx]; rfl
  rw [← htk] at o5
  obtain ⟨va5, vc5, rfl, -⟩ := o5.slice
  rw [List.length_take] at o5 b5
  rw [List.length_take]
  clear N3c N3f N3l B3c B3f B3l
  have B5c := blk_cell B5; have B5f := blk_free B5; have B5l := blk_lt B5
  simp -dsimp [go_sem, B5c, B5f, B5l]
  try simp -dsimp (disch := omega) only [IntWalk.i64_in, IntWalk.u64_in, IntWalk.u8_in]
  generalize hv5 : (Value.slice va5 (min (i + 1) s.L.length) vc5) = v5 at *
  have hb5 : ∀ g, ownB v5 = some g → w.heap.size < g ∧ g < w5.heap.size := fun g hg => by
    have := (b5 g hg).2
    rcases (b5 g hg).1 with q | q
    · have := b1 g q; exact ⟨by omega, by omega⟩
    · exact ⟨by omega, by omega⟩
  have sW : Step (fun k => k = w.heap.size) w5 (w5.setCell ⟨w.heap.size, 0, none⟩ v5) := (Step.refl (fun k => k = w.heap.size) w5).set (.inl rfl) _
  have o6 := (o5.mono (Y := fun k => X k ∨ k = w.heap.size ∨ ownB v5 = some k) (fun j _ q => by
    rcases q with q | q | q
    · exact .inl (.inl q)
    · exact .inl (.inr (.inl q))
    · exact .inr q)).step sW (fun j q => .inr (.inl q)) (fun g hg q => by have := hb5 g hg; omega)
  refine back_intro (i + 1, v5) (by simp -dsimp [go_sem]) (by simp -dsimp [go_sem]) ⟨by show i + 1 ≤ _; omega, Step.keep (Step.keep (Keep.trans k1 k24) s5 (fun j q => by have := b1 j q; omega)) sW (fun j q => by omega), blk_eq (blk_set B5 0 _) (by first | rfl | simp), o6, fun g hg => by have := hb5 g hg; exact ⟨this.1, Nat.lt_of_lt_of_le this.2 sW.size⟩⟩ (by show s.L.length - (i + 1) < s.L.length - i; omega)
end Go.Proofs.YtdfjfagljngciaaGreat

set_option linter.all false
set_option maxRecDepth 100000
set_option maxHeartbeats 4000000
namespace Go.Proofs.YtdfjfagljngciaaGreat
open Go.RowKit Rx Go.MapKept

theorem ref_Within (X : Nat → Prop) (b : Nat) (v : Value) (s : St) (ino dir : Int) (hl : s.L.length ≤ 2 ^ 40) (w : World) (h : RAt w X b v s) :
    Calls Tryz.prog 126 #[.pointer (some ⟨b, 0, none⟩), .int .i64 ino, .int .i64 dir] w fun r w' => r = .returned (.bool (withinS s ino dir)) ∧ Keep w w' := by
  have H0 := h.hb
  obtain ⟨a, c, rfl, -⟩ := h.ho.slice
  refine calls_rx h126 Tryz.func126 rfl Tryz.mixed (by kernel_rfl) Tryz.results126 ?_
  have H0c := blk_cell H0; have H0f := blk_free H0; have H0l := blk_lt H0
  simp -dsimp [go_sem, H0c, H0f, H0l]
  refine loop_intro (σ := Nat × Int) (fun g => [.int .i64 g.2, .int .i64 g.1]) (fun g w' => g.1 ≤ s.L.length ∧ withinS s ino dir = withinN s dir (s.L.length - g.1) g.2 ∧ Keep w w') (fun g => s.L.length - g.1) (0, ino) (by simp -dsimp [go_sem]; rfl) (by simp -dsimp [go_sem]) ⟨Nat.zero_le _, rfl, Keep.refl w⟩ ?_
  rintro ⟨i, cur⟩ w1 ⟨hi, hw, k1⟩
  simp only at hi hw
  rw [hw]
  simp -dsimp [go_sem]
  by_cases g1 : i < s.L.length
  rotate_left
  · obtain rfl : i = s.L.length := by omega
    rw [Nat.sub_self, show withinN s dir 0 cur = decide (cur = dir) from rfl]
    simp -dsimp [go_sem, Nat.lt_irrefl]
    exact k1
  obtain ⟨j, hj⟩ : ∃ j, s.L.length - i = j + 1 := ⟨s.L.length - i - 1, by omega⟩
  rw [hj]
  by_cases g2 : cur = dir
  · rw [show withinN s dir (j + 1) cur = true from by unfold withinN; rw [if_pos g2]]
    simp -dsimp [go_sem, g1, g2]
    exact k1
  rw [show withinN s dir (j + 1) cur = if isDir s cur = false ∨ (dirN s cur).up = cur then false else withinN s dir j (dirN s cur).up from by rw [withinN, if_neg g2]]
  have h1 := h.keep k1
  have H1 := h1.hb
  simp -dsimp [go_sem, g1, g2]
  refine (ref_kind X b _ s cur hl w1.drew (h1.keep (keep_drew w1))).mono ?_; rintro _ w2 ⟨rfl, k2⟩; refine ret_intro ?_
  have k12 := Keep.trans (keep_drew w1) k2
  refine ⟨Keep.agree k12 (Agree.refl _), ?_⟩
  have hkd := kindS_dir s cur
  by_cases g3 : kindS s cur = 2
  rotate_left
  · have hf : isDir s cur = false := by rw [← hkd]; simpa using g3
    rw [if_pos (.inl hf)]
    simp -dsimp [go_sem, g3]
    exact ⟨Keep.agree k12 (Agree.refl _), Keep.trans k1 k12⟩
  have hdir : isDir s cur = true := by rw [← hkd]; exact decide_eq_true g3
  have h2 := h1.keep k12
  have H2 := h2.hb
  clear H0c H0f H0l
  have H1c := blk_cell H1; have H1f := blk_free H1; have H1l := blk_lt H1; have H2c := blk_cell H2; have H2f := blk_free H2; have H2l := blk_lt H2
  simp -dsimp [go_sem, g3, H1c, H1f, H1l, H2c, H2f, H2l]
  refine (ref_At X b _ s cur hl w2 h2).mono ?_; rintro _ w3 ⟨rfl, k3⟩; refine ret_intro ?_
  refine ⟨Keep.agree (Keep.trans k12 k3) (Agree.refl _), ?_⟩
  have h3 := h2.keep k3
  rcases at_cases s.L cur with ⟨e1, e2⟩ | ⟨q, x, e1, e2, e3⟩
  · have := (isDir_some hdir).1; rw [e2] at this; cases this
  rw [e1, dirN_some e3]
  have hq := (List.getElem?_eq_some_iff.1 e2).1
  have q2 : (q : Int) < s.L.length := by omega
  obtain ⟨g, off, c', p, m, e, hg, hgo, hok, hp, hm, c0, c1, c2, c3, c4, c5, c6, hf, -⟩ := h3.ho.node h.xv e2
  cases e
  have H3 := h3.hb
  clear H2c H2f H2l
  have H3c := blk_cell H3; have H3f := blk_free H3; have H3l := blk_lt H3
  by_cases g4 : x.up = cur
  · rw [if_pos (.inr g4)]
    simp -dsimp [go_sem, g3, hq, q2, hg, c4, g4, H3c, H3f, H3l]
    exact ⟨Keep.agree (Keep.trans k12 k3) (Agree.refl _), Keep.trans k1 (Keep.trans k12 k3)⟩
  rw [if_neg (by simp [hdir, g4])]
  simp -dsimp [go_sem, g3, hq, q2, hg, c4, g4, H3c, H3f, H3l]
  refine ⟨Keep.agree (Keep.trans k12 k3) (Agree.refl _), ?_⟩
  refine (ref_At X b _ s cur hl w3.drew (h3.keep (keep_drew w3))).mono ?_; rintro _ w4 ⟨rfl, k4⟩; refine ret_intro ?_
  have k34 := Keep.trans (keep_drew w3) k4
  refine ⟨Keep.agree k34 (Agree.refl _), ?_⟩
  rw [e1]
  have h4 := h3.keep k34
  obtain ⟨g', off', c'', p', m', e', hg', hgo', hok', hp', hm', d0, d1, d2, d3, d4, d5, d6, hf', -⟩ := h4.ho.node h.xv e2
  cases e'
  simp -dsimp [go_sem, hq, q2, hg', d4]
  try simp -dsimp (disch := omega) only [IntWalk.i64_in, IntWalk.u64_in, IntWalk.u8_in]
  refine ⟨Keep.agree k34 (Agree.refl _), ?_⟩
  exact back_intro (i + 1, x.up) (by simp -dsimp [go_sem]) (by simp -dsimp [go_sem]) ⟨by show i + 1 ≤ _; omega, by show withinN s dir j x.up = withinN s dir (s.L.length - (i + 1)) x.up; rw [show s.L.length - (i + 1) = j from by omega], Keep.trans k1 (Keep.trans k12 (Keep.trans k3 k34))⟩ (by show s.L.length - (i + 1) < j + 1; omega)
theorem del_take {L : List Node} (hs : L.Pairwise (fun a b => a.ino < b.ino)) {i : Nat} {x : Node} (hx : L[i]? = some x) : L.take i ++ L.drop (i + 1) = delL L x.ino := by
  have hi := List.getElem?_eq_some_iff.1 hx
  have e : L = L.take i ++ x :: L.drop (i + 1) := by
    have := List.drop_eq_getElem_cons hi.1
    rw [hi.2] at this
    rw [← this, List.take_append_drop]
  have hp := hs
  rw [e, List.pairwise_append] at hp
  obtain ⟨p1, p2, p3⟩ := hp
  conv => rhs; rw [e]
  unfold delL
  rw [List.filter_append, List.filter_cons, if_neg (by simp)]
  have q1 : (L.take i).filter (fun n => !decide (n.ino = x.ino)) = L.take i := by
    rw [List.filter_eq_self]
    intro y hy
    have := p3 y hy x (List.mem_cons_self ..)
    simp; omega
  have q2 : (L.drop (i + 1)).filter (fun n => !decide (n.ino = x.ino)) = L.drop (i + 1) := by
    rw [List.filter_eq_self]
    intro y hy
    have := (List.pairwise_cons.1 p2).1 y hy
    simp; omega
  rw [q1, q2]
theorem ref_remove (X : Nat → Prop) (b : Nat) (v : Value) (s : St) (k : Int) (hl : s.L.length ≤ 2 ^ 20) (hs : s.L.Pairwise (fun a b => a.ino < b.ino)) (hk : (getL s.L k).isSome = true) (w : World) (h : RAt w X b v s) :
    Calls Tryz.prog 97 #[.pointer (some ⟨b, 0, none⟩), .int .i64 k] w fun r w' => (∃ u, r = .returned u) ∧ ∃ v', RAt w' (fun k => X k ∨ ownB v' = some k) b v' ⟨delL s.L k, s.last⟩ ∧ Step (fun k => k = b ∨ ownB v = some k) w w' ∧ ∀ g, ownB v' = some g → ownB v = some g ∨ w.heap.size ≤ g := by
  refine calls_rx h97 Tryz.func97 rfl Tryz.mixed (by kernel_rfl) Tryz.results97 ?_
  simp -dsimp [go_sem]
  refine (ref_At X b v s k (Nat.le_trans hl (by decide)) w h).mono ?_; rintro _ w1 ⟨rfl, k1⟩; refine ret_intro ?_
  have h1 := h.keep k1
  have H1 := h1.hb
  rcases at_cases s.L k with ⟨e1, e2⟩ | ⟨i, x, e1, e2, e3⟩
  · rw [e2] at hk; cases hk
  rw [e1]
  have hxk := (getL_some e3).2
  have hi := (List.getElem?_eq_some_iff.1 e2).1
  have hdel := del_take hs e2
  rw [hxk] at hdel
  have i2 : (i : Int) < s.L.length := by omega
  rcases h1.ho.split with ⟨a, rfl, q, -⟩ | ⟨xs, o1, o2, ob⟩
  · rw [q] at hi; simp at hi
  obtain ⟨a, c, rfl, hc, hm, hsl⟩ := o1.slice
  obtain ⟨g, off, rfl, hg, hob, hcell, hfr⟩ := hsl (by omega)
  have e4 : IntKind.i64.wrap ((i : Int) + 1) = i + 1 := IntWalk.i64_in _ (by omega)
  have H1c := blk_cell H1; have H1f := blk_free H1; have H1l := blk_lt H1
  have ic : i ≤ c := by omega
  have i3 : i + 1 ≤ s.L.length := by omega
  have i4 : ((i : Int) + 1).toNat = i + 1 := by omega
  have i5 : ¬ ((i : Int) + 1) < 0 := by omega
  have i6 : ((i : Int) + 1) ≤ s.L.length := by omega
  have i7 : 0 ≤ (i : Int) + 1 := by omega
  simp -dsimp [go_sem, H1c, H1f, H1l, e4, hi, i2, ic, hc, i3, i4, i5, i6, i7]
  rw [show (if c = i + 1 then some (⟨g, off, none⟩ : Addr) else some ⟨g, off + (i + 1) * 7, none⟩) = some (if c = i + 1 then ⟨g, off, none⟩ else ⟨g, off + (i + 1) * 7, none⟩) from by split <;> rfl]
  have hlen : xs.length = s.L.length * 7 := o1.1
  obtain ⟨cur, hgc, hcz, hct⟩ : ∃ cur, w1.heap[g]? = some (.cells cur 42 (0, 0)) ∧ off + c * 7 ≤ cur.size ∧ (cur.toList.drop off).take (s.L.length * 7) = xs := by
    rcases o1.2 with ⟨q, -⟩ | ⟨g', off', c', cur, q, q1, q2, q3, q4, q5⟩
    · cases q
    · simp only [Value.slice.injEq, Option.some.injEq, Addr.mk.injEq, and_true, true_and] at q
      obtain ⟨⟨rfl, rfl⟩, rfl⟩ := q
      exact ⟨cur, q1, q4, q5⟩
  have hmul : i * 7 + 7 ≤ s.L.length * 7 := by omega
  have hmc : s.L.length * 7 ≤ c * 7 := by omega
  have hown : OwnS w1.drew 42 7 (.slice (some ⟨g, off, none⟩) i i) i (xs.take (i * 7)) :=
    ⟨by rw [List.length_take]; omega, .inr ⟨g, off, i, cur, rfl, hgc, Nat.le_refl _, by unfold maxLen; omega, by omega, by rw [← hct, List.take_take]; congr 1; omega⟩⟩
  refine app_at 7 88 Tryz.underlying84 (by kernel_rfl) hown (xs.drop ((i + 1) * 7)) (by rw [List.length_drop]; omega) (fun j u hu => ?_) (fun u hu => ?_) (by unfold maxLen; omega) (by omega) ?_
  · rw [List.getElem?_drop] at hu
    have hj := (List.getElem?_eq_some_iff.1 hu).1
    rw [if_neg (by omega), Addr.add_mid]
    have := hcell _ _ hu
    show w1.cell? _ = _
    rw [← this]; congr 2; omega
  · exact o2.ones one_node u (List.mem_of_mem_drop hu)
  intro v' w2 a1 a2 a3
  have sg : Step (fun k => k = g) w1 w2 := Step.trans (O := fun k => k = g) (Keep.any (keep_drew w1)) a2 (fun _ _ q => by simpa [Value.ownBlock] using q.symm)
  have hgX : X g := h1.xv g (by rw [ob, hob])
  have hgb := h1.ne (by rw [ob, hob] : ownB _ = some g)
  have hM : ∀ j, j < w1.heap.size → (X j ∨ w1.heap.size ≤ j) → X j := fun j hj q => q.resolve_right (by omega)
  have hcs := ((o2.take i).append (o2.drop (i + 1))).mono hM
  rw [hdel] at hcs
  have hcs2 := hcs.step sg (fun j q => .inl (by rw [q]; exact hgX))
  have hfresh : ∀ j, ownB v' = some j → j = g ∨ w1.heap.size ≤ j := fun j q => by
    rcases a3 j (ownB_block q) with q' | q'
    · left; simpa [Value.ownBlock] using q'.symm
    · exact .inr q'
  have hl2 : i + (s.L.length - (i + 1)) = (delL s.L k).length := by
    rw [← hdel, List.length_append, List.length_take, List.length_drop]; omega
  rw [hl2] at a1
  have hxl := h1.xl
  have o3 : Ow rNode 42 (fun j => X j ∨ ownB v' = some j) w2 v' (delL s.L k) := .inr ⟨_, a1, hcs2.mono (fun j hj q => by
    rcases q with q | q
    · exact .inl q
    · rcases hfresh j q with q' | q'
      · exact .inl (by rw [q']; exact hgX)
      · exact .inr q')⟩
  have H2 := sg.blk H1 (fun q => hgb q.symm)
  obtain ⟨va, vc, rfl, -⟩ := o3.slice
  clear H1c H1f H1l
  have H2c := blk_cell H2; have H2f := blk_free H2; have H2l := blk_lt H2
  simp -dsimp [go_sem, H2c, H2f, H2l]
  generalize hvv : (Value.slice va (delL s.L k).length vc) = v' at *
  have sW : Step (fun k => k = b) w2 (w2.setCell ⟨b, 0, none⟩ v') := (Step.refl (fun k => k = b) w2).set (.inl rfl) _
  refine ⟨v', ⟨blk_eq (blk_set H2 0 _) (by first | rfl | simp), o3.step sW (fun j q => .inl (by rw [q]; exact h1.xb)) (fun j hj q => ?_), fun j q => .inr q, .inl h1.xb, fun j q => ?_⟩, ?_, fun j q => ?_⟩
  · rcases hfresh j hj with q' | q'
    · exact hgb (q'.symm.trans q)
    · have := blk_lt H1; omega
  · have := sW.size
    rcases q with q | q
    · have := hxl j q; have := sg.size; omega
    · have := o3.lt q; omega
  · exact (Step.trans (O := fun j => j = b ∨ ownB (.slice (some ⟨g, off, none⟩) s.L.length c) = some j) (Keep.any k1) sg (fun j _ q => .inr (by rw [q, ob, hob]))).trans sW (fun j _ q => .inl q)
  · rcases hfresh j q with q' | q'
    · left; rw [q', ob, hob]
    · have := k1.size; right; omega
end Go.Proofs.YtdfjfagljngciaaGreat
