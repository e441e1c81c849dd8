/- The reference: rows that are alike, names that are found and dropped. The reference: a copy of a node; names that are dropped, and put. The reference: a name that is put. The reference: a node of another size. -/
import Derived.Test.YtdfjfagljngciaaGreatStg
import Derived.Test.YtdfjfagljngciaaGreatStd
set_option linter.all false
set_option maxRecDepth 100000
set_option maxHeartbeats 4000000
namespace Go.Proofs.YtdfjfagljngciaaGreat
open Go.RowKit Rx Go.MapKept

theorem take_eq_step {α : Type} {l l' : List α} {i : Nat} {x y : α} (hx : l[i]? = some x) (hy : l'[i]? = some y) (h : l.take i = l'.take i) (e : x = y) : l.take (i + 1) = l'.take (i + 1) := by
  rw [List.take_add_one, List.take_add_one, hx, hy, h, e]
theorem ne_at {α : Type} {l l' : List α} {i : Nat} {x y : α} (hx : l[i]? = some x) (hy : l'[i]? = some y) (e : x ≠ y) : l ≠ l' := by
  rintro rfl
  rw [hx] at hy
  exact e (by simpa using hy)
theorem ref_SameInts (X Y : Nat → Prop) (v v' : Value) (l l' : List Int) (w : World) (h : Sl rInt X w v l) (h' : Sl rInt Y w v' l') :
    Calls Tryz.prog 86 #[v, v'] w fun e w' => e = .returned (.bool (decide (l = l'))) ∧ Keep w w' := by
  obtain ⟨a, c, rfl, -, -, -⟩ := id h
  obtain ⟨a', c', rfl, -, -, -⟩ := id h'
  have hm := h.len
  have hm' := h'.len
  unfold maxLen at hm hm'
  refine calls_rx h86 Tryz.func86 rfl Tryz.mixed (by kernel_rfl) Tryz.results86 ?_
  simp -dsimp [go_sem]
  by_cases g1 : (l.length : Int) = l'.length
  rotate_left
  · have : l ≠ l' := by rintro rfl; exact g1 rfl
    simp -dsimp [go_sem, g1, this]
    exact Keep.refl w
  simp -dsimp [go_sem, g1]
  refine loop_intro (σ := Nat) (fun i => [.int .i64 i]) (fun i w' => i ≤ l.length ∧ Keep w w' ∧ l.take i = l'.take i) (fun i => l.length - i) 0 (by simp -dsimp [go_sem]; rfl) (by simp -dsimp [go_sem]) ⟨by simp, Keep.refl w, by simp⟩ ?_
  rintro i w1 ⟨hi, k1, ht⟩
  simp -dsimp [go_sem]
  by_cases g2 : i < l.length
  · have hx : l[i]? = some l[i] := List.getElem?_eq_getElem _
    generalize l[i] = x at hx
    have hy : l'[i]? = some l'[i] := List.getElem?_eq_getElem (by omega)
    generalize l'[i] = y at hy
    obtain ⟨b, off, c2, e, hb, -, hc, hxi⟩ := (h.keep k1).int hx
    cases e
    obtain ⟨b', off', c2', e, hb', -, hc', hyi⟩ := (h'.keep k1).int hy
    cases e
    have i1 : (i : Int) < l.length := by omega
    have i2 : (i : Int) < l'.length := by omega
    have i3 : i < l'.length := by omega
    by_cases g3 : x = y
    · simp -dsimp [go_sem, i3, g2, i1, i2, hb, hc, hb', hc', g3]
      try simp -dsimp (disch := omega) only [IntWalk.i64_in, IntWalk.u64_in, IntWalk.u8_in]
      exact back_intro (i + 1) (by simp -dsimp [go_sem]) (by simp -dsimp [go_sem]) ⟨by omega, k1.drew, take_eq_step hx hy ht g3⟩ (by omega)
    · have := ne_at hx hy g3
      simp -dsimp [go_sem, i3, g2, i1, i2, hb, hc, hb', hc', g3, this]
      exact k1.drew
  · obtain rfl : i = l.length := by omega
    rw [List.take_length, show l.length = l'.length from by omega, List.take_length] at ht
    subst ht
    simp -dsimp [go_sem]
    exact k1
theorem neq_entry (x y : Entry) (w : World) : (binOp .neq 110 (.agg x.enc.toArray) (.agg y.enc.toArray)).run Tryz.prog w = .ok (.bool (!decide (x = y))) w := by
  unfold Entry.enc
  simp [go_sem]
  have ti : ∀ (a b : ByteArray), a.toList = b.toList ↔ a = b := fun a b => ⟨fun q => by rw [ByteArray.toList_eq, ByteArray.toList_eq] at q; obtain ⟨⟨x⟩⟩ := a; obtain ⟨⟨y⟩⟩ := b; simpa using q, fun q => q ▸ rfl⟩
  simp only [ti]
  obtain ⟨a1, a2⟩ := x
  obtain ⟨b1, b2⟩ := y
  simp only [Entry.mk.injEq]
  repeat' split
  all_goals simp_all
theorem ref_SameEntries (X Y : Nat → Prop) (v v' : Value) (l l' : List Entry) (w : World) (h : Sl rEntry X w v l) (h' : Sl rEntry Y w v' l') :
    Calls Tryz.prog 87 #[v, v'] w fun e w' => e = .returned (.bool (decide (l = l'))) ∧ Keep w w' := by
  obtain ⟨a, c, rfl, -, -, -⟩ := id h
  obtain ⟨a', c', rfl, -, -, -⟩ := id h'
  have hm := h.len
  have hm' := h'.len
  unfold maxLen at hm hm'
  refine calls_rx h87 Tryz.func87 rfl Tryz.mixed (by kernel_rfl) Tryz.results87 ?_
  simp -dsimp [go_sem]
  by_cases g1 : (l.length : Int) = l'.length
  rotate_left
  · have : l ≠ l' := by rintro rfl; exact g1 rfl
    simp -dsimp [go_sem, g1, this]
    exact Keep.refl w
  simp -dsimp [go_sem, g1]
  refine loop_intro (σ := Nat) (fun i => [.int .i64 i]) (fun i w' => i ≤ l.length ∧ Keep w w' ∧ l.take i = l'.take i) (fun i => l.length - i) 0 (by simp -dsimp [go_sem]; rfl) (by simp -dsimp [go_sem]) ⟨by simp, Keep.refl w, by simp⟩ ?_
  rintro i w1 ⟨hi, k1, ht⟩
  simp -dsimp [go_sem]
  by_cases g2 : i < l.length
  · have hx : l[i]? = some l[i] := List.getElem?_eq_getElem _
    generalize l[i] = x at hx
    have hy : l'[i]? = some l'[i] := List.getElem?_eq_getElem (by omega)
    generalize l'[i] = y at hy
    obtain ⟨b, off, c2, e, hb, -, hxo, hc0, hc1⟩ := (h.keep k1).entry hx
    cases e
    obtain ⟨b', off', c2', e, hb', -, hyo, hc0', hc1'⟩ := (h'.keep k1).entry hy
    cases e
    have i1 : (i : Int) < l.length := by omega
    have i2 : (i : Int) < l'.length := by omega
    have i3 : i < l'.length := by omega
    have q := neq_entry x y
    unfold Entry.enc at q
    by_cases g3 : x = y
    · simp -dsimp [go_sem, i3, g2, i1, i2, hb, hc0, hc1, hb', hc0', hc1', q, g3]
      try simp -dsimp (disch := omega) only [IntWalk.i64_in, IntWalk.u64_in, IntWalk.u8_in]
      refine ⟨agree_drew (Agree.refl _), ?_⟩
      exact back_intro (i + 1) (by simp -dsimp [go_sem]) (by simp -dsimp [go_sem]) ⟨by omega, k1.drew, take_eq_step hx hy ht g3⟩ (by omega)
    · have := ne_at hx hy g3
      simp -dsimp [go_sem, i3, g2, i1, i2, hb, hc0, hc1, hb', hc0', hc1', q, g3, this]
      refine ⟨agree_drew (Agree.refl _), ?_⟩
      exact k1.drew
  · obtain rfl : i = l.length := by omega
    rw [List.take_length, show l.length = l'.length from by omega, List.take_length] at ht
    subst ht
    simp -dsimp [go_sem]
    exact k1
theorem ref_Need (size : Int) (hs : I64 size) (w : World) : Calls Tryz.prog 127 #[.int .i64 size] w fun e w' => e = .returned (.int .i64 (needI size)) ∧ w = w' := by
  obtain ⟨s1, s2⟩ := hs
  unfold needI
  by_cases g1 : size < 1
  · rw [if_pos g1]
    refine calls_rx h127 Tryz.func127 rfl Tryz.mixed (by kernel_rfl) Tryz.results127 ?_
    simp -dsimp [go_sem]
    refine condF_intro (fun g2 => ?_) (fun g2 => ?_)
    · simp -dsimp [go_sem, g1]
    · simp -dsimp [go_sem, g1]
  · rw [if_neg g1]
    have e1 : size.tmod 256 = size % 256 := Int.tmod_eq_emod_of_nonneg (by omega)
    have e2 : size.tdiv 256 = size / 256 := Int.tdiv_eq_ediv_of_nonneg (by omega)
    refine calls_rx h127 Tryz.func127 rfl Tryz.mixed (by kernel_rfl) Tryz.results127 ?_
    simp -dsimp [go_sem, e1, e2]
    refine condF_intro (fun g2 => ?_) (fun g2 => ?_)
    · simp at g2
      simp -dsimp [go_sem, g1]
      try simp -dsimp (disch := omega) only [IntWalk.i64_in, IntWalk.u64_in, IntWalk.u8_in]
      omega
    · simp at g2
      simp -dsimp [go_sem, g1]
      try simp -dsimp (disch := omega) only [IntWalk.i64_in, IntWalk.u64_in, IntWalk.u8_in]
      omega
theorem ref_Find (X : Nat → Prop) (v : Value) (l : List Entry) (s : ByteArray) (w : World) (h : Sl rEntry X w v l) :
    Calls Tryz.prog 123 #[v, .string s] w fun e w' => e = .returned (.tuple #[.int .i64 (findN l s).1, .bool (findN l s).2]) ∧ Keep w w' := by
  obtain ⟨a, c, rfl, -⟩ := id h
  have hm := h.len
  unfold maxLen at hm
  refine calls_rx h123 Tryz.func123 rfl Tryz.mixed (by kernel_rfl) Tryz.results123 ?_
  simp -dsimp [go_sem]
  refine loop_intro (σ := Nat) (fun i => [.int .i64 i]) (fun i w' => i ≤ l.length ∧ Keep w w' ∧ ∀ y ∈ l.take i, y.name ≠ s) (fun i => l.length - i) 0 (by simp -dsimp [go_sem]; rfl) (by simp -dsimp [go_sem]) ⟨by simp, Keep.refl w, by simp⟩ ?_
  rintro i w1 ⟨hi, k1, hno⟩
  simp -dsimp [go_sem]
  by_cases g1 : i < l.length
  · have hx : l[i]? = some l[i] := List.getElem?_eq_getElem _
    generalize l[i] = x at hx
    obtain ⟨b, off, c', e, hbl, -, hxo, hc0, hc1⟩ := (h.keep k1).entry hx
    cases e
    have i2 : (i : Int) < l.length := by omega
    by_cases g2 : x.name = s
    · have hp : placeN s l = i := placeN_at s l i x hx g2 hno
      have hfn : findN l s = (x.ino, true) := by
        rcases findN_place l s with ⟨q1, q2⟩ | ⟨i', x', q1, q2, q3, q4⟩
        · omega
        · have : i' = i := by omega
          subst this; rw [hx] at q2; cases q2; exact q4
      simp -dsimp [go_sem, g1, i2, hbl, hc0, hc1, g2, hfn]
      exact k1.alloc _
    · simp -dsimp [go_sem, g1, i2, hbl, hc0, hc1, g2]
      try simp -dsimp (disch := omega) only [IntWalk.i64_in, IntWalk.u64_in, IntWalk.u8_in]
      refine back_intro (i + 1) (by simp -dsimp [go_sem]) (by simp -dsimp [go_sem]) ⟨by omega, k1.alloc _, fun y hy => ?_⟩ (by omega)
      rw [List.take_add_one, hx] at hy
      rcases List.mem_append.1 hy with q | q
      · exact hno y q
      · simp at q; subst q; exact g2
  · obtain rfl : i = l.length := by omega
    rw [List.take_length] at hno
    have hfn : findN l s = (0, false) := by
      rcases findN_place l s with ⟨q1, q2⟩ | ⟨i', x', q1, q2, q3, q4⟩
      · exact q2
      · exact absurd q3 (hno x' (List.mem_of_getElem? q2))
    simp -dsimp [go_sem, g1, hfn]
    exact k1
end Go.Proofs.YtdfjfagljngciaaGreat

set_option linter.all false
set_option maxRecDepth 100000
set_option maxHeartbeats 4000000
namespace Go.Proofs.YtdfjfagljngciaaGreat
open Go.RowKit Rx Go.MapKept

theorem one_entry_cs (x : Entry) (hx : x.ok) (X : Nat → Prop) (w : World) : Cs rEntry X w [x] x.enc := Cs.one ⟨rfl, hx⟩
/-- One entry more behind a row of one's own. -/
theorem app_entry {w0 W : World} {v : Value} {l : List Entry} {x : Entry} {g : Nat} (hx : x.ok) (hb : W.heap[g]? = some (.cells x.enc.toArray 110 (0, 0))) (k1 : Keep w0 W) (o1 : Ow rEntry 110 (fun _ => True) W v l) (b1 : ∀ g, ownB v = some g → w0.heap.size ≤ g) (hl : l.length ≤ 2 ^ 40)
    {k : Value → World → Prop} {tk : Tag k} (hk : ∀ v' w', Keep w0 w' → Ow rEntry 110 (fun _ => True) w' v' (l ++ [x]) → (∀ g, ownB v' = some g → w0.heap.size ≤ g) → Step (fun g => ownB v = some g) W w' → k v' w') :
    appF Tryz.prog #[40, 40] 40 (Shut k tk) v (.slice (some ⟨g, 0, none⟩) 1 1) W := by
  refine app_flat 24 flat_entry Tryz.underlying40 (by kernel_rfl) one_entry o1 (Sl.of_blk (X := fun _ => False) (l := [x]) hb id (one_entry_cs x hx _ _) rfl (by unfold maxLen; omega)) (by rw [List.length_singleton]; unfold maxLen; omega) (by rw [List.length_singleton]; omega) ?_
  intro v' w' h1 k2 b2
  refine hk v' w' (Step.keep k1 k2 b1) h1 (fun g hg => ?_) k2
  rcases b2 g hg with q | q
  · exact b1 g q
  · have := k1.size; omega
theorem ref_DropEntry (X : Nat → Prop) (v : Value) (l : List Entry) (s : ByteArray) (w : World) (h : Sl rEntry X w v l) (hl : l.length ≤ 2 ^ 40) :
    Calls Tryz.prog 143 #[v, .string s] w fun e w' => ∃ v', e = .returned (.tuple #[v', .bool (dropE l s).2]) ∧ Ow rEntry 110 (fun _ => True) w' v' (dropE l s).1 ∧ Keep w w' ∧ ∀ g, ownB v' = some g → w.heap.size ≤ g := by
  obtain ⟨a, c, rfl, -⟩ := id h
  refine calls_rx h143 Tryz.func143 rfl Tryz.mixed (by kernel_rfl) Tryz.results143 ?_
  simp -dsimp [go_sem]
  refine loop_intro (σ := Nat × Value) (fun s => [s.2, .int .i64 s.1]) (fun t w' => t.1 ≤ l.length ∧ Keep w w' ∧ Ow rEntry 110 (fun _ => True) w' t.2 ((l.take t.1).filter (fun x => !decide (x.name = s))) ∧ ∀ g, ownB t.2 = some g → w.heap.size ≤ g) (fun t => l.length - t.1) (0, .slice none 0 0) (by simp -dsimp [go_sem]; rfl) (by simp -dsimp [go_sem]) ⟨by simp, Keep.refl w, by simpa using Ow.nil _ _ _ _, by simp [ownB]⟩ ?_
  rintro ⟨i, v⟩ w1 ⟨hi, k1, o1, b1⟩
  simp only at hi o1 b1
  simp -dsimp [go_sem]
  by_cases g1 : i < l.length
  · have hx : l[i]? = some l[i] := List.getElem?_eq_getElem _
    generalize l[i] = x at hx
    obtain ⟨b, off, c', e, hbl, -, hxo, hc0, hc1⟩ := (h.keep k1).entry hx
    cases e
    have i2 : (i : Int) < l.length := by omega
    have hlen : ((l.take i).filter (fun x => !decide (x.name = s))).length ≤ 2 ^ 40 := Nat.le_trans (List.length_filter_le _ _) (Nat.le_trans (List.length_take_le' i l) hl)
    by_cases g2 : x.name = s
    · simp -dsimp [go_sem, g1, i2, hbl, hc0, hc1, g2]
      try simp -dsimp (disch := omega) only [IntWalk.i64_in, IntWalk.u64_in, IntWalk.u8_in]
      exact back_intro (i + 1, v) (by simp -dsimp [go_sem]) (by simp -dsimp [go_sem]) ⟨by show i + 1 ≤ _; omega, k1.alloc _, by show Ow _ _ _ _ _ _; rw [List.take_add_one, hx]; simpa [g2] using o1.keep (keep_alloc w1 _), b1⟩ (by show l.length - (i + 1) < l.length - i; omega)
    · simp -dsimp [go_sem, g1, i2, hbl, hc0, hc1, g2]
      generalize hW : (w1.alloc _).alloc _ = W
      obtain ⟨B0, B1, k2, z2⟩ := alloc2 hW
      clear hW
      refine app_entry hxo B1 (Keep.trans k1 k2) (o1.keep k2) b1 hlen ?_
      intro v' w' q1 q2 q3 q4
      simp -dsimp [go_sem]
      try simp -dsimp (disch := omega) only [IntWalk.i64_in, IntWalk.u64_in, IntWalk.u8_in]
      exact back_intro (i + 1, v') (by simp -dsimp [go_sem]) (by simp -dsimp [go_sem]) ⟨by show i + 1 ≤ _; omega, q1, by show Ow _ _ _ _ _ _; rw [List.take_add_one, hx, List.filter_append]; simpa [g2] using q2, q3⟩ (by show l.length - (i + 1) < l.length - i; omega)
  · obtain rfl : i = l.length := by omega
    obtain ⟨va, vc, rfl, -⟩ := o1.slice
    unfold dropE
    rw [List.take_length] at o1 ⊢
    simp -dsimp [go_sem]
    exact ⟨o1, k1, by simpa using b1⟩
theorem ref_CopyNode (X : Nat → Prop) (n : Node) (cs : List Value) (w : World) (h : rNode.R X w n cs) (hp : n.pages.length ≤ 2 ^ 40) (hn : n.names.length ≤ 2 ^ 40) : Calls Tryz.prog 80 #[.agg cs.toArray] w fun e w' => ∃ p m, e = .returned (.agg (n.enc p m).toArray) ∧ NNew w.heap.size w' n p m ∧ Keep w w' := by
  obtain ⟨d1, d2, rfl, h1, h2, hok⟩ := h
  obtain ⟨a1, c1, rfl, -⟩ := id h1
  obtain ⟨a2, c2, rfl, -⟩ := id h2
  refine calls_rx h80 Tryz.func80 rfl Tryz.mixed (by kernel_rfl) Tryz.results80 ?_
  unfold Node.enc
  simp -dsimp [go_sem]
  generalize hW : (w.alloc _).alloc _ = W
  obtain ⟨E0, E1, k0, z0⟩ := alloc2 hW
  clear hW
  refine app_clone 8 Tryz.underlying39 (by kernel_rfl) one_int none (h1.keep k0) (by omega) ?_
  intro p w1 o1 k1 b1
  obtain ⟨pa, pc, rfl, -⟩ := o1.slice
  replace E0 := Step.blk k1 E0 (fun q => q); replace E1 := Step.blk k1 E1 (fun q => q)
  have E0c := blk_cell E0; have E0f := blk_free E0; have E0l := blk_lt E0; have E1c := blk_cell E1; have E1f := blk_free E1; have E1l := blk_lt E1
  simp -dsimp [go_sem, E0c, E0f, E0l, E1c, E1f, E1l]
  generalize qw2 : World.setCell _ _ _ = w2; have sw2 : Step (fun k => k = w.heap.size) w1 w2 := by (rw [← qw2]; (repeat (with_reducible refine Step.set ?_ ?_ _)); (with_reducible exact Step.refl _ _); all_goals exact .inl (by simp))
  have E2 : w2.heap[w.heap.size]? = some (.cells #[.int .i64 n.ino, .int .i64 n.kind, .int .i64 n.links, .int .i64 n.size, .int .i64 n.up, .slice pa n.pages.length pc, .slice a2 n.names.length c2] 42 (0, 0)) := by
    rw [← qw2]; exact blk_eq (blk_set E0 5 _) (by first | rfl | simp)
  have l1 := k1.size
  have F2 := sw2.blk E1 (by omega)
  have kw2 : Keep w w2 := Step.keep (Keep.trans k0 k1) sw2 (fun i q => by omega)
  clear qw2 E0c E0f E0l E1c E1f E1l
  refine app_clone 24 Tryz.underlying40 (by kernel_rfl) one_entry none (h2.keep kw2) (by omega) ?_
  intro m w3 o3 k3 b3
  obtain ⟨ma, mc, rfl, -⟩ := o3.slice
  replace E2 := Step.blk k3 E2 (fun q => q); replace F2 := Step.blk k3 F2 (fun q => q)
  have E2c := blk_cell E2; have E2f := blk_free E2; have E2l := blk_lt E2; have F2c := blk_cell F2; have F2f := blk_free F2; have F2l := blk_lt F2
  simp -dsimp [go_sem, E2c, E2f, E2l, F2c, F2f, F2l]
  generalize qw5 : World.setCell _ _ _ = w5; have sw5 : Step (fun k => k = w.heap.size ∨ k = w.heap.size + 1) w3 w5 := by (rw [← qw5]; (repeat (with_reducible refine Step.set ?_ ?_ _)); (with_reducible exact Step.refl _ _); all_goals exact .inl (by simp))
  clear qw5
  have sN := sw5
  have s15 : Step (fun k => k = w.heap.size ∨ k = w.heap.size + 1) w1 w5 := ((sw2.mono (fun k _ q => .inl q : ∀ k, k < w1.heap.size → k = w.heap.size → k = w.heap.size ∨ k = w.heap.size + 1)).then k3).trans sN (fun k _ q => q)
  have l2 := sw2.size
  have l3 := k3.size
  refine ⟨_, _, ⟨rfl, rfl⟩, ⟨⟨o1.flat flat_int s15 (fun g hg q => ?_), o3.flat flat_entry sN (fun g hg q => ?_), fun g hg hg2 => ?_⟩, fun g hg => ?_, fun g hg => ?_⟩, Step.keep (Keep.trans k0 k1) s15 (fun i q => by omega)⟩
  · have := b1 g hg; omega
  · have := b3 g hg; omega
  · have := o1.lt hg; have := b3 g hg2; omega
  · have := b1 g hg; omega
  · have := b3 g hg; omega
end Go.Proofs.YtdfjfagljngciaaGreat

set_option linter.all false
set_option maxRecDepth 100000
set_option maxHeartbeats 4000000
namespace Go.Proofs.YtdfjfagljngciaaGreat
open Go.RowKit Rx Go.MapKept

def lessB (s : ByteArray) (x : Entry) : Bool := Op.bytesLess s.toList x.name.toList
theorem insE_app1 {s : ByteArray} {ino : Int} : ∀ {l1 l2 : List Entry}, l1.any (lessB s) = true → insE (l1 ++ l2) s ino = insE l1 s ino ++ l2
  | [], _, h => by simp at h
  | x :: l1, l2, h => by
    show insE (x :: (l1 ++ l2)) s ino = insE (x :: l1) s ino ++ l2
    unfold insE
    by_cases g : Op.bytesLess s.toList x.name.toList = true
    · rw [if_pos g, if_pos g]; simp
    · rw [if_neg g, if_neg g, insE_app1 (l1 := l1)]
      · simp
      · rw [List.any_cons] at h
        simpa [lessB, g] using h
theorem insE_app0 {s : ByteArray} {ino : Int} : ∀ {l1 l2 : List Entry}, l1.any (lessB s) = false → insE (l1 ++ l2) s ino = l1 ++ insE l2 s ino
  | [], _, h => by simp
  | x :: l1, l2, h => by
    rw [List.any_cons, Bool.or_eq_false_iff] at h
    show insE (x :: (l1 ++ l2)) s ino = _
    rw [insE, if_neg (by have := h.1; unfold lessB at this; rw [this]; simp), insE_app0 h.2]
    rfl
theorem insE_nil (s : ByteArray) (ino : Int) : insE [] s ino = [⟨s, ino⟩] := rfl
def outE (l : List Entry) (s : ByteArray) (ino : Int) : List Entry := if l.any (lessB s) = true then insE l s ino else l
theorem outE_step {l : List Entry} {s : ByteArray} {ino : Int} {x : Entry} : outE (l ++ [x]) s ino = (if l.any (lessB s) = true then insE l s ino else if lessB s x = true then l ++ [⟨s, ino⟩] else l) ++ [x] := by
  unfold outE
  rw [List.any_append]
  by_cases g : l.any (lessB s) = true
  · rw [if_pos (by rw [g]; rfl), if_pos g, insE_app1 g]
  · have g' : l.any (lessB s) = false := by simpa using g
    rw [if_neg g, g']
    by_cases gx : lessB s x = true
    · rw [if_pos (by simp [gx]), if_pos gx, insE_app0 g']
      unfold insE
      rw [if_pos (by exact gx)]; simp
    · rw [if_neg (by simp [gx]), if_neg gx]
theorem outE_end {l : List Entry} {s : ByteArray} {ino : Int} : insE l s ino = if l.any (lessB s) = true then outE l s ino else outE l s ino ++ [⟨s, ino⟩] := by
  unfold outE
  split
  · rfl
  · rename_i g
    have := insE_app0 (l1 := l) (l2 := []) (s := s) (ino := ino) (by simpa using g)
    simpa [insE_nil] using this
theorem outE_len (l : List Entry) (s : ByteArray) (ino : Int) : (outE l s ino).length ≤ l.length + 1 := by
  have h : ∀ l : List Entry, (insE l s ino).length = l.length + 1 := fun l => by
    induction l with
    | nil => simp [insE]
    | cons y r ih => unfold insE; split <;> simp [ih]
  unfold outE
  split
  · rw [h]; exact Nat.le_refl _
  · omega
theorem ref_PutEntry (X : Nat → Prop) (v : Value) (l : List Entry) (s : ByteArray) (ino : Int) (hio : I64 ino) (w : World) (hX : ∀ k, X k → k < w.heap.size) (h : Sl rEntry X w v l) (hl : l.length ≤ 2 ^ 39) :
    Calls Tryz.prog 124 #[v, .string s, .int .i64 ino] w fun e w' => ∃ v', e = .returned (.tuple #[v', .bool (putE l s ino).2]) ∧ Sl rEntry X w' v' (putE l s ino).1 ∧ Keep w w' := by
  obtain ⟨a, c, rfl, -⟩ := id h
  have hm := h.len
  have hfe : (findN l s).2 = hasE l s := by
    rcases findN_place l s with ⟨q1, q2⟩ | ⟨i, x, q1, q2, q3, q4⟩
    · rcases hasE_place l s with ⟨p1, p2⟩ | ⟨p1, p2⟩
      · omega
      · rw [q2, p1]
    · rcases hasE_place l s with ⟨p1, p2⟩ | ⟨p1, p2⟩
      · rw [q4, p1]
      · omega
  refine calls_rx h124 Tryz.func124 rfl Tryz.mixed (by kernel_rfl) Tryz.results124 ?_
  simp -dsimp [go_sem]
  refine (ref_Find X _ l s w h).mono ?_; rintro _ w0 ⟨rfl, k0⟩; refine ret_intro ?_
  unfold putE
  rw [hfe]
  cases hh : hasE l s
  rotate_left
  · rw [if_pos rfl]
    simp -dsimp [go_sem]
    exact ⟨h.keep k0, k0⟩
  rw [if_neg (by simp)]
  simp -dsimp [go_sem]
  refine loop_intro (σ := Nat × Value) (fun t => [t.2, .bool ((l.take t.1).any (lessB s)), .int .i64 t.1]) (fun t w' => t.1 ≤ l.length ∧ Keep w w' ∧ Ow rEntry 110 (fun _ => True) w' t.2 (outE (l.take t.1) s ino) ∧ ∀ g, ownB t.2 = some g → w.heap.size ≤ g) (fun t => l.length - t.1) (0, .slice none 0 0) (by simp -dsimp [go_sem]; rfl) (by simp -dsimp [go_sem]) ⟨by simp, k0, by simpa [outE] using Ow.nil _ _ _ _, by simp [ownB]⟩ ?_
  rintro ⟨i, v⟩ w1 ⟨hi, k1, o1, b1⟩
  simp only at hi o1 b1
  simp -dsimp [go_sem]
  by_cases g1 : i < l.length
  · have hx : l[i]? = some l[i] := List.getElem?_eq_getElem _
    generalize l[i] = x at hx
    obtain ⟨b, off, c', e, hbl, -, hxo, hc0, hc1⟩ := (h.keep k1).entry hx
    cases e
    have i2 : (i : Int) < l.length := by omega
    simp -dsimp [go_sem, g1, i2, hbl, hc0, hc1]
    generalize hW : w1.alloc _ = W
    obtain ⟨B0, k2, z2⟩ := alloc1 hW
    clear hW
    have k12 := Keep.trans k1 k2
    have o2 := o1.keep k2
    have hlen := outE_len (l.take i) s ino
    have hlt : (l.take i).length ≤ 2 ^ 39 := Nat.le_trans (List.length_take_le' i l) hl
    have hstep := outE_step (l := l.take i) (s := s) (ino := ino) (x := x)
    have htk : l.take (i + 1) = l.take i ++ [x] := by rw [List.take_add_one, hx]; rfl
    rw [← htk] at hstep
    have hany : (l.take (i + 1)).any (lessB s) = ((l.take i).any (lessB s) || lessB s x) := by rw [htk, List.any_append]; simp
    generalize hM : (if (l.take i).any (lessB s) = true then insE (l.take i) s ino else if lessB s x = true then l.take i ++ [⟨s, ino⟩] else l.take i) = M at hstep
    have hMl : M.length ≤ 2 ^ 39 + 1 := by
      have h1 := congrArg List.length hstep
      have h2 := outE_len (l.take (i + 1)) s ino
      have h3 := List.length_take_le' (i + 1) l
      rw [List.length_append, List.length_singleton] at h1
      omega
    refine join_intro (σ := Value × Bool) (fun t => [t.1, .bool t.2]) (fun t w' => Keep w w' ∧ t.2 = (l.take (i + 1)).any (lessB s) ∧ w'.heap[w1.heap.size]? = some (.cells #[.string x.name, .int .i64 x.ino] 110 (0, 0)) ∧ Ow rEntry 110 (fun _ => True) w' t.1 M ∧ ∀ g, ownB t.1 = some g → w.heap.size ≤ g) (by simp -dsimp [go_sem]; rfl) ?_ ?_
    · have B0c := blk_cell B0; have B0f := blk_free B0; have B0l := blk_lt B0
      unfold outE at o2
      cases hd : (l.take i).any (lessB s)
      · rw [hd] at hM hany
        rw [hd, if_neg (by simp)] at o2
        rw [if_neg (by simp)] at hM
        by_cases gx : lessB s x = true
        · rw [if_pos gx] at hM
          have gx' : Op.bytesLess s.toList x.name.toList = true := gx
          simp -dsimp [go_sem, B0c, B0f, B0l, gx']
          generalize hW : W.alloc _ = W3
          obtain ⟨C0, k3, z3⟩ := alloc1 hW
          clear hW
          refine app_entry (x := ⟨s, ino⟩) hio C0 (Keep.trans k12 k3) (o2.keep k3) b1 (by omega) ?_
          intro v' w' q1 q2 q3 q4
          simp -dsimp [go_sem]
          exact meet_intro (v', true) (by simp -dsimp [go_sem]) (by simp -dsimp [go_sem]) ⟨q1, by rw [hany, gx]; rfl, q4.blk (k3.blk B0 (fun q => q)) (fun q => by have := o1.lt q; omega), hM ▸ q2, q3⟩
        · rw [if_neg gx] at hM
          have gx' : Op.bytesLess s.toList x.name.toList = false := by simpa [lessB] using gx
          simp -dsimp [go_sem, B0c, B0f, B0l, gx']
          exact meet_intro (v, false) (by simp -dsimp [go_sem]) (by simp -dsimp [go_sem]) ⟨k12, by rw [hany]; simpa using gx, B0, hM ▸ o2, b1⟩
      · rw [hd] at hM hany
        rw [hd, if_pos rfl] at o2
        rw [if_pos rfl] at hM
        simp -dsimp [go_sem, B0c, B0f, B0l]
        exact meet_intro (v, true) (by simp -dsimp [go_sem]) (by simp -dsimp [go_sem]) ⟨k12, by rw [hany]; rfl, B0, hM ▸ o2, b1⟩
    · rintro ⟨v3, d3⟩ w3 ⟨k3, hd3, B3, o3, b3⟩
      simp only at hd3 o3 b3
      subst hd3
      have B3c := blk_cell B3; have B3f := blk_free B3; have B3l := blk_lt B3
      simp -dsimp [go_sem, B3c, B3f, B3l]
      generalize hW : w3.alloc _ = W4
      obtain ⟨C0, k4, z4⟩ := alloc1 hW
      clear hW
      refine app_entry hxo C0 (Keep.trans k3 k4) (o3.keep k4) b3 (by omega) ?_
      intro v' w' q1 q2 q3 q4
      rw [← hstep] at q2
      simp -dsimp [go_sem]
      try simp -dsimp (disch := omega) only [IntWalk.i64_in, IntWalk.u64_in, IntWalk.u8_in]
      exact back_intro (i + 1, v') (by simp -dsimp [go_sem]) (by simp -dsimp [go_sem]) ⟨by show i + 1 ≤ _; omega, q1, q2, q3⟩ (by show l.length - (i + 1) < l.length - i; omega)
  · obtain rfl : i = l.length := by omega
    rw [List.take_length] at o1 ⊢
    have he := outE_end (l := l) (s := s) (ino := ino)
    have hlen := outE_len l s ino
    have slx : ∀ {w' : World} {v' : Value} {l' : List Entry}, Ow rEntry 110 (fun _ => True) w' v' l' → (∀ g, ownB v' = some g → w.heap.size ≤ g) → Sl rEntry X w' v' l' := fun h1 h2 => (h1.all flat_entry).sl (fun g hg hx => by have := h2 g hg; have := hX g hx; omega)
    cases hd : l.any (lessB s)
    · rw [hd, if_neg (by simp)] at he
      simp -dsimp [go_sem, Nat.lt_irrefl]
      generalize hW : w1.alloc _ = W3
      obtain ⟨C0, k3, z3⟩ := alloc1 hW
      clear hW
      refine app_entry (x := ⟨s, ino⟩) hio C0 (Keep.trans k1 k3) (o1.keep k3) b1 (by omega) ?_
      intro v' w' q1 q2 q3 q4
      rw [← he] at q2
      simp -dsimp [go_sem]
      exact ⟨slx q2 q3, q1⟩
    · rw [hd, if_pos rfl] at he
      simp -dsimp [go_sem, Nat.lt_irrefl]
      exact ⟨slx (he ▸ o1) b1, k1⟩
end Go.Proofs.YtdfjfagljngciaaGreat

set_option linter.all false
set_option maxRecDepth 100000
set_option maxHeartbeats 4000000
namespace Go.Proofs.YtdfjfagljngciaaGreat
open Go.RowKit Rx Go.MapKept

theorem needI_le' {size : Int} (h0 : 0 ≤ size) (h1 : size ≤ 16384) : needI size ≤ 64 := by
  unfold needI
  split <;> omega
def outP (L : List Int) (K i : Nat) : List Int := (L ++ List.replicate (K - L.length) 0).take (min i K)
def goneP (L : List Int) (K i : Nat) : List Int := ((L.take i).drop K).filter (fun x => !decide (x = 0))
theorem outP_step {L : List Int} {K i : Nat} (h : i < K) : outP L K (i + 1) = outP L K i ++ [(L[i]?).getD 0] := by
  unfold outP
  rw [Nat.min_eq_left (by omega), Nat.min_eq_left (by omega), List.take_add_one]
  congr 1
  by_cases g : i < L.length
  · rw [List.getElem?_append_left g]
    rw [List.getElem?_eq_getElem g]; rfl
  · rw [List.getElem?_append_right (by omega), List.getElem?_replicate, if_pos (by omega), List.getElem?_eq_none (by omega)]; rfl
theorem outP_stay {L : List Int} {K i : Nat} (h : K ≤ i) : outP L K (i + 1) = outP L K i := by
  unfold outP
  rw [Nat.min_eq_right (by omega), Nat.min_eq_right h]
theorem goneP_stay {L : List Int} {K i : Nat} (h : i < K) : goneP L K (i + 1) = goneP L K i := by
  unfold goneP
  rw [List.drop_eq_nil_of_le (by rw [List.length_take]; omega), List.drop_eq_nil_of_le (by rw [List.length_take]; omega)]
theorem goneP_step {L : List Int} {K i : Nat} {x : Int} (hx : L[i]? = some x) (h : K ≤ i) : goneP L K (i + 1) = if x = 0 then goneP L K i else goneP L K i ++ [x] := by
  have hi := (List.getElem?_eq_some_iff.1 hx).1
  unfold goneP
  rw [List.take_add_one, hx, List.drop_append_of_le_length (by rw [List.length_take]; omega), List.filter_append]
  split
  · rename_i g; simp [g]
  · rename_i g; simp [g]
theorem resizeN_out {n : Node} {size : Int} (h0 : 0 ≤ size) (h1 : size ≤ 16384) {i : Nat} (hi : n.pages.length ≤ i) (hk : (needI size).toNat ≤ i) : resizeN n size = ({ n with size := size, pages := outP n.pages (needI size).toNat i }, goneP n.pages (needI size).toNat i) := by
  unfold resizeN outP goneP
  rw [if_neg (by omega), Nat.min_eq_right hk, List.take_of_length_le hi]
  simp only
  split
  · rename_i g
    rw [show (needI size).toNat - n.pages.length = 0 from by omega]; simp
  · rename_i g
    rw [List.drop_eq_nil_of_le (by omega), List.take_of_length_le (by simp; omega)]; rfl
theorem Ow.ne_box {α : Type} {r : Rep α} {e t : TypeId} {X : Nat → Prop} {w : World} {v : Value} {l : List α} (h : Ow r e X w v l) {k : Nat} {cs : Array Value} (hb : w.heap[k]? = some (.cells cs t (0, 0))) (ht : e ≠ t) {g : Nat} (hg : ownB v = some g) : g ≠ k := by
  rintro rfl
  rcases h.split with ⟨a, rfl, rfl, hn⟩ | ⟨xs, h1, h2, hn⟩
  · rw [hn] at hg; cases hg
  · rw [hn] at hg
    rcases h1.2 with ⟨rfl, -⟩ | ⟨g', off, cap, cur, rfl, hc, -⟩
    · cases hg
    · simp [Value.ownBlock] at hg
      subst hg
      rw [hc] at hb
      simp at hb
      exact ht hb.2
/-- One number more behind a row of one's own. -/
theorem app_int {W : World} {v : Value} {l : List Int} {x : Int} {g : Nat} (hx : I64 x) (hb : W.heap[g]? = some (.cells #[.int .i64 x] 3 (0, 0))) (o1 : Ow rInt 3 (fun _ => True) W v l) (hl : l.length ≤ 2 ^ 40)
    {k : Value → World → Prop} {tk : Tag k} (hk : ∀ v' w', Ow rInt 3 (fun _ => True) w' v' (l ++ [x]) → Step (fun g => ownB v = some g) W w' → (∀ g, ownB v' = some g → (ownB v = some g ∨ W.heap.size ≤ g) ∧ g < w'.heap.size) → k v' w') :
    appF Tryz.prog #[39, 39] 39 (Shut k tk) v (.slice (some ⟨g, 0, none⟩) 1 1) W := by
  refine app_flat 8 flat_int Tryz.underlying39 (by kernel_rfl) one_int o1 (Sl.of_blk (X := fun _ => False) (l := [x]) hb id (one_int_cs x hx _ _) rfl (by unfold maxLen; omega)) (by rw [List.length_singleton]; unfold maxLen; omega) (by rw [List.length_singleton]; omega) ?_
  intro v' w' h1 k2 b2
  exact hk v' w' h1 k2 (fun g hg => ⟨b2 g hg, h1.lt hg⟩)
theorem ref_Resize (X : Nat → Prop) (n : Node) (cs : List Value) (size : Int) (hsz : I64 size) (w : World) (h : rNode.R X w n cs) (hp : n.pages.length ≤ 2 ^ 20) (hn : n.names.length ≤ 2 ^ 40) :
    Calls Tryz.prog 96 #[.agg cs.toArray, .int .i64 size] w fun e w' => ∃ p m g, e = .returned (.tuple #[.agg ((resizeN n size).1.enc p m).toArray, g]) ∧ NNew w.heap.size w' (resizeN n size).1 p m ∧ Ow rInt 3 (fun _ => True) w' g (resizeN n size).2 ∧ Keep w w' ∧ (∀ b, ownB g = some b → w.heap.size ≤ b) := by
  have hh := h
  obtain ⟨d1, d2, rfl, h1, h2, hok⟩ := h
  obtain ⟨a1, c1, rfl, -⟩ := id h1
  obtain ⟨a2, c2, rfl, -⟩ := id h2
  refine calls_rx h96 Tryz.func96 rfl Tryz.mixed (by kernel_rfl) Tryz.results96 ?_
  unfold Node.enc
  simp -dsimp [go_sem]
  generalize hW : (w.alloc _).alloc _ = W
  obtain ⟨E0, F0, k0, z0⟩ := alloc2 hW
  clear hW
  refine (ref_CopyNode X n _ W (rNode.keep hh k0) (by omega) hn).mono ?_; rintro _ w1 ⟨p, q, rfl, n1, k1⟩; refine ret_intro ?_
  obtain ⟨pa, pc, ma, mc, rfl, rfl, -⟩ := n1.slices
  unfold Node.enc
  simp -dsimp [go_sem]
  generalize hW : w1.alloc _ = w2
  obtain ⟨N2, k2, z2⟩ := alloc1 hW
  clear hW
  have kw := Keep.trans k0 (Keep.trans k1 k2)
  have n2 := n1.keep k2
  replace E0 := Step.blk k1 E0 (fun q => q); replace F0 := Step.blk k1 F0 (fun q => q)
  replace E0 := Step.blk k2 E0 (fun q => q); replace F0 := Step.blk k2 F0 (fun q => q)
  have E0c := blk_cell E0; have E0f := blk_free E0; have E0l := blk_lt E0; have F0c := blk_cell F0; have F0f := blk_free F0; have F0l := blk_lt F0; have N2c := blk_cell N2; have N2f := blk_free N2; have N2l := blk_lt N2
  by_cases g1 : size < 0 ∨ 16384 < size
  · have g1' : (decide (size < 0) || decide (16384 < size)) = true := by simpa using g1
    unfold resizeN
    rw [if_pos g1]
    simp -dsimp [go_sem, g1', E0c, E0f, E0l, F0c, F0f, F0l, N2c, N2f, N2l]
    generalize qw5 : World.setCell _ _ _ = w5; have sw5 : Step (fun k => k = w.heap.size + 1) w2 w5 := by (rw [← qw5]; (repeat (with_reducible refine Step.set ?_ ?_ _)); (with_reducible exact Step.refl _ _); all_goals exact .inl (by simp))
    clear qw5
    have l1 := k1.size
    exact ⟨_, _, _, ⟨⟨rfl, rfl⟩, rfl⟩, (n2.step sw5 (fun j hj q => by omega)).le (by omega), Ow.nil _ _ _ _, Step.keep kw sw5 (fun i q => by omega), by simp [ownB]⟩
  have g2 : ¬ size < 0 := by omega
  have g3 : ¬ 16384 < size := by omega
  have g1' : (decide (size < 0) || decide (16384 < size)) = false := by simp [g2, g3]
  simp -dsimp [go_sem, g1', E0c, E0f, E0l, F0c, F0f, F0l, N2c, N2f, N2l]
  have l1 := k1.size
  have hK := needI_le' (size := size) (by omega) (by omega)
  have hK0 : 0 ≤ needI size := by unfold needI; split <;> omega
  refine loop_intro (σ := Nat × Value × Value) (fun t => [t.2.1, .int .i64 t.1]) (fun t w' => (t.1 ≤ n.pages.length ∨ (t.1 : Int) ≤ needI size) ∧ Step (fun k => k = w1.heap.size) w2 w' ∧
    w'.heap[w1.heap.size]? = some (.cells #[.int .i64 n.ino, .int .i64 n.kind, .int .i64 n.links, .int .i64 size, .int .i64 n.up, t.2.2, .slice ma n.names.length mc] 42 (0, 0)) ∧
    Ow rInt 3 (fun _ => True) w' t.2.1 (goneP n.pages (needI size).toNat t.1) ∧ Ow rInt 3 (fun _ => True) w' t.2.2 (outP n.pages (needI size).toNat t.1) ∧
    (∀ g, ownB t.2.1 = some g → w2.heap.size ≤ g ∧ g < w'.heap.size) ∧ (∀ g, ownB t.2.2 = some g → w2.heap.size ≤ g ∧ g < w'.heap.size) ∧ (∀ g, ownB t.2.1 = some g → ownB t.2.2 = some g → False)) (fun t => n.pages.length + (needI size).toNat - t.1) (0, .slice none 0 0, .slice none 0 0) (by simp -dsimp [go_sem]; rfl) (by simp -dsimp [go_sem]) ⟨.inl (Nat.zero_le _), ?_, ?_, ?_, ?_, ?_, ?_, ?_⟩ ?_
  · exact (by (repeat (with_reducible first | exact Step.refl _ _ | refine Step.drew ?_ | refine Step.set ?_ ?_ _)); all_goals (first | exact .inl rfl | exact .inl (by simp)))
  · exact blk_eq (blk_set (blk_set N2 3 _) 5 _) (by first | rfl | simp)
  · show Ow _ _ _ _ (.slice none 0 0) _
    rw [show goneP n.pages (needI size).toNat 0 = [] from by simp [goneP]]; exact Ow.nil _ _ _ _
  · show Ow _ _ _ _ (.slice none 0 0) _
    rw [show outP n.pages (needI size).toNat 0 = [] from by simp [outP]]; exact Ow.nil _ _ _ _
  · intro g hg; simp [ownB] at hg
  · intro g hg; simp [ownB] at hg
  · intro g hg; simp [ownB] at hg
  rintro ⟨i, vg, vp⟩ w3 ⟨hi, s3, B3, og, op, bg, bp, bne⟩
  simp only at hi B3 og op bg bp bne
  clear E0c E0f E0l F0c F0f F0l N2c N2f N2l
  have E3 := s3.blk E0 (by omega)
  have F3 := s3.blk F0 (by omega)
  have l3 := s3.size
  have E3c := blk_cell E3; have E3f := blk_free E3; have E3l := blk_lt E3; have B3c := blk_cell B3; have B3f := blk_free B3; have B3l := blk_lt B3
  have hpl : Sl rInt X w3 (.slice a1 n.pages.length c1) n.pages := h1.keep (Step.keep kw s3 (fun j q => by omega))
  simp -dsimp [go_sem, E3c, E3f, E3l, B3c, B3f, B3l]
  refine (ref_Need size hsz w3).mono ?_; rintro _ w4 ⟨rfl, rfl⟩; refine ret_intro ?_
  simp -dsimp [go_sem, E3c, E3f, E3l, B3c, B3f, B3l]
  by_cases gc : (i : Int) < needI size ∨ i < n.pages.length
  rotate_left
  · have c1 : ¬ (i : Int) < needI size := fun q => gc (.inl q)
    have c2 : ¬ i < n.pages.length := fun q => gc (.inr q)
    have hres := resizeN_out (n := n) (size := size) (i := i) (by omega) (by omega) (by omega) (by omega)
    obtain ⟨vga, vgc, rfl, -⟩ := og.slice
    obtain ⟨vpa, vpc, rfl, -⟩ := op.slice
    rw [hres]
    have F3c := blk_cell F3; have F3f := blk_free F3; have F3l := blk_lt F3
    simp -dsimp [go_sem, c1, c2, E3c, E3f, E3l, B3c, B3f, B3l, F3c, F3f, F3l]
    generalize qw5 : World.setCell _ _ _ = w5; have sw5 : Step (fun k => k = w.heap.size + 1) w3 w5 := by (rw [← qw5]; (repeat (with_reducible refine Step.set ?_ ?_ _)); (with_reducible exact Step.refl _ _); all_goals exact .inl (by simp))
    clear qw5
    have s25 : Step (fun k => k = w1.heap.size ∨ k = w.heap.size + 1) w2 w5 := (s3.mono (fun k _ q => .inl q)).trans sw5 (fun k _ q => .inr q)
    refine ⟨_, _, _, ⟨⟨rfl, rfl⟩, rfl⟩, ⟨⟨op.flat flat_int sw5 (fun g hg q => ?_), n2.mo.flat flat_entry s25 (fun g hg q => ?_), fun g hg hg2 => ?_⟩, fun g hg => ?_, fun g hg => ?_⟩, og.flat flat_int sw5 (fun g hg q => ?_), Step.keep kw s25 (fun j q => by omega), fun g hg => ?_⟩
    · have := bp g hg; omega
    · have := n1.mb g hg; have := n1.mo.lt hg; omega
    · have := bp g hg; have := n2.mo.lt hg2; omega
    · have := bp g hg; omega
    · have := n1.mb g hg; omega
    · have := bg g hg; omega
    · have := bg g hg; omega
  have hpc : (decide ((i : Int) < needI size) || decide (i < n.pages.length)) = true := by simpa using gc
  have hol : (outP n.pages (needI size).toNat i).length ≤ 2 ^ 40 := by
    unfold outP; have := List.length_take_le' (min i (needI size).toNat) (n.pages ++ List.replicate ((needI size).toNat - n.pages.length) 0); rw [List.length_append, List.length_replicate] at this; omega
  have hgl : (goneP n.pages (needI size).toNat i).length ≤ 2 ^ 40 := by
    unfold goneP; refine Nat.le_trans (List.length_filter_le _ _) ?_; rw [List.length_drop, List.length_take]; omega
  by_cases gK : (i : Int) < needI size
  · by_cases gL : i < n.pages.length
    · simp -dsimp [go_sem, gK, gL, hpc, E3c, E3f, E3l, B3c, B3f, B3l]
      have hx : n.pages[i]? = some n.pages[i] := List.getElem?_eq_getElem gL
      generalize n.pages[i] = x at hx
      obtain ⟨b, off, c', e, hb, -, hc, hxi⟩ := hpl.int hx
      cases e
      have hst := outP_step (L := n.pages) (K := (needI size).toNat) (i := i) (by omega)
      rw [hx, Option.getD_some] at hst
      refine join_intro (σ := Unit) (fun _ => [.int .i64 x]) (fun _ w' => w3 = w') (by simp -dsimp [go_sem]; rfl) ?_ ?_
      · simp -dsimp [go_sem, gL, E3c, E3f, E3l, B3c, B3f, B3l, hb, hc]
        exact meet_intro () (by simp -dsimp [go_sem]) (by simp -dsimp [go_sem]) rfl
      rintro _ _ rfl
      simp -dsimp [go_sem]
      refine (ref_Need size hsz w3).mono ?_; rintro _ w5 ⟨rfl, rfl⟩; refine ret_intro ?_
      simp -dsimp [go_sem, gK, B3c, B3f, B3l]
      generalize hW : w3.alloc _ = W4
      obtain ⟨C4, k4, z4⟩ := alloc1 hW
      clear hW
      refine app_int hxi C4 (op.keep k4) hol ?_
      intro v' w' q1 q2 q3
      have l4 := q2.size
      have B4 := q2.blk (k4.blk B3 (fun q => q)) (fun q => by have := bp _ q; omega)
      clear B3c B3f B3l
      have B4c := blk_cell B4; have B4f := blk_free B4; have B4l := blk_lt B4
      rw [← hst] at q1
      obtain ⟨va', vc', rfl, -⟩ := q1.slice
      simp -dsimp [go_sem, B4c, B4f, B4l]
      try simp -dsimp (disch := omega) only [IntWalk.i64_in, IntWalk.u64_in, IntWalk.u8_in]
      generalize hv' : Value.slice va' (outP n.pages (needI size).toNat (i + 1)).length vc' = v' at *
      generalize hq5 : w'.setCell ⟨w1.heap.size, 5, none⟩ v' = w5
      have s5 : Step (fun k => k = w1.heap.size) w' w5 := by rw [← hq5]; exact (Step.refl (fun k => k = w1.heap.size) w').set (.inl rfl) _
      have B5 : w5.heap[w1.heap.size]? = some (.cells #[.int .i64 n.ino, .int .i64 n.kind, .int .i64 n.links, .int .i64 size, .int .i64 n.up, v', .slice ma n.names.length mc] 42 (0, 0)) := by
        rw [← hq5]; exact blk_eq (blk_set B4 5 _) (by first | rfl | simp)
      clear hq5
      have l5 := s5.size
      have s35 : Step (fun k => k = w1.heap.size ∨ ownB vp = some k) w3 w5 := ((Keep.any k4).trans q2 (fun _ _ q => .inr q)).trans s5 (fun _ _ q => .inl q)
      exact back_intro (i + 1, vg, v') (by simp -dsimp [go_sem]) (by simp -dsimp [go_sem]) ⟨.inr (by omega), s3.trans s35 (fun j hj q => q.elim id (fun q => by have := bp j q; omega)), B5, by
          show Ow _ _ _ _ _ _
          rw [goneP_stay (by omega)]; exact og.flat flat_int s35 (fun g hg q => q.elim (fun q => by have := bg g hg; omega) (fun q => bne g hg q)), q1.flat flat_int s5 (fun g hg q => by rcases (q3 g hg).1 with q' | q'; (have := bp g q'; omega); omega),
        fun g hg => by have := bg g hg; exact ⟨this.1, by omega⟩, fun g hg => by have := (q3 g hg).2; rcases (q3 g hg).1 with q' | q'; (have := bp g q'; exact ⟨by omega, by omega⟩); exact ⟨by omega, by omega⟩, fun g hg hg2 => by rcases (q3 g hg2).1 with q' | q'; exact bne g hg q'; (have := bg g hg; omega)⟩ (by show n.pages.length + (needI size).toNat - (i + 1) < n.pages.length + (needI size).toNat - i; omega)
    · simp -dsimp [go_sem, gK, gL, hpc, E3c, E3f, E3l, B3c, B3f, B3l]
      have hst := outP_step (L := n.pages) (K := (needI size).toNat) (i := i) (by omega)
      rw [List.getElem?_eq_none (by omega), Option.getD_none] at hst
      refine join_intro (σ := Unit) (fun _ => [.int .i64 0]) (fun _ w' => w3 = w') (by simp -dsimp [go_sem]; rfl) ?_ ?_
      · simp -dsimp [go_sem, gL, E3c, E3f, E3l, B3c, B3f, B3l]
        exact meet_intro () (by simp -dsimp [go_sem]) (by simp -dsimp [go_sem]) rfl
      rintro _ _ rfl
      simp -dsimp [go_sem]
      refine (ref_Need size hsz w3).mono ?_; rintro _ w5 ⟨rfl, rfl⟩; refine ret_intro ?_
      simp -dsimp [go_sem, gK, B3c, B3f, B3l]
      generalize hW : w3.alloc _ = W4
      obtain ⟨C4, k4, z4⟩ := alloc1 hW
      clear hW
      refine app_int ⟨by decide, by decide⟩ C4 (op.keep k4) hol ?_
      intro v' w' q1 q2 q3
      have l4 := q2.size
      have B4 := q2.blk (k4.blk B3 (fun q => q)) (fun q => by have := bp _ q; omega)
      clear B3c B3f B3l
      have B4c := blk_cell B4; have B4f := blk_free B4; have B4l := blk_lt B4
      rw [← hst] at q1
      obtain ⟨va', vc', rfl, -⟩ := q1.slice
      simp -dsimp [go_sem, B4c, B4f, B4l]
      try simp -dsimp (disch := omega) only [IntWalk.i64_in, IntWalk.u64_in, IntWalk.u8_in]
      generalize hv' : Value.slice va' (outP n.pages (needI size).toNat (i + 1)).length vc' = v' at *
      generalize hq5 : w'.setCell ⟨w1.heap.size, 5, none⟩ v' = w5
      have s5 : Step (fun k => k = w1.heap.size) w' w5 := by rw [← hq5]; exact (Step.refl (fun k => k = w1.heap.size) w').set (.inl rfl) _
      have B5 : w5.heap[w1.heap.size]? = some (.cells #[.int .i64 n.ino, .int .i64 n.kind, .int .i64 n.links, .int .i64 size, .int .i64 n.up, v', .slice ma n.names.length mc] 42 (0, 0)) := by
        rw [← hq5]; exact blk_eq (blk_set B4 5 _) (by first | rfl | simp)
      clear hq5
      have l5 := s5.size
      have s35 : Step (fun k => k = w1.heap.size ∨ ownB vp = some k) w3 w5 := ((Keep.any k4).trans q2 (fun _ _ q => .inr q)).trans s5 (fun _ _ q => .inl q)
      exact back_intro (i + 1, vg, v') (by simp -dsimp [go_sem]) (by simp -dsimp [go_sem]) ⟨.inr (by omega), s3.trans s35 (fun j hj q => q.elim id (fun q => by have := bp j q; omega)), B5, by
          show Ow _ _ _ _ _ _
          rw [goneP_stay (by omega)]; exact og.flat flat_int s35 (fun g hg q => q.elim (fun q => by have := bg g hg; omega) (fun q => bne g hg q)), q1.flat flat_int s5 (fun g hg q => by rcases (q3 g hg).1 with q' | q'; (have := bp g q'; omega); omega),
        fun g hg => by have := bg g hg; exact ⟨this.1, by omega⟩, fun g hg => by have := (q3 g hg).2; rcases (q3 g hg).1 with q' | q'; (have := bp g q'; exact ⟨by omega, by omega⟩); exact ⟨by omega, by omega⟩, fun g hg hg2 => by rcases (q3 g hg2).1 with q' | q'; exact bne g hg q'; (have := bg g hg; omega)⟩ (by show n.pages.length + (needI size).toNat - (i + 1) < n.pages.length + (needI size).toNat - i; omega)
  · have gL : i < n.pages.length := gc.resolve_left gK
    simp -dsimp [go_sem, gK, gL, hpc, E3c, E3f, E3l, B3c, B3f, B3l]
    have hx : n.pages[i]? = some n.pages[i] := List.getElem?_eq_getElem gL
    generalize n.pages[i] = x at hx
    obtain ⟨b, off, c', e, hb, -, hc, hxi⟩ := hpl.int hx
    cases e
    have hst := goneP_step (L := n.pages) (K := (needI size).toNat) (i := i) hx (by omega)
    have hos := outP_stay (L := n.pages) (K := (needI size).toNat) (i := i) (by omega)
    refine join_intro (σ := Unit) (fun _ => [.int .i64 x]) (fun _ w' => w3 = w') (by simp -dsimp [go_sem]; rfl) ?_ ?_
    · simp -dsimp [go_sem, gL, E3c, E3f, E3l, B3c, B3f, B3l, hb, hc]
      exact meet_intro () (by simp -dsimp [go_sem]) (by simp -dsimp [go_sem]) rfl
    rintro _ _ rfl
    simp -dsimp [go_sem]
    refine (ref_Need size hsz w3).mono ?_; rintro _ w5 ⟨rfl, rfl⟩; refine ret_intro ?_
    by_cases gx : x = 0
    · rw [if_pos gx] at hst
      simp -dsimp [go_sem, gK, gx]
      try simp -dsimp (disch := omega) only [IntWalk.i64_in, IntWalk.u64_in, IntWalk.u8_in]
      exact back_intro (i + 1, vg, vp) (by simp -dsimp [go_sem]) (by simp -dsimp [go_sem]) ⟨.inl (by omega), s3, B3, by show Ow _ _ _ _ _ _; rw [hst]; exact og, by show Ow _ _ _ _ _ _; rw [hos]; exact op, bg, bp, bne⟩ (by show n.pages.length + (needI size).toNat - (i + 1) < n.pages.length + (needI size).toNat - i; omega)
    · rw [if_neg gx] at hst
      simp -dsimp [go_sem, gK, gx]
      generalize hW : w3.alloc _ = W4
      obtain ⟨C4, k4, z4⟩ := alloc1 hW
      clear hW
      refine app_int hxi C4 (og.keep k4) hgl ?_
      intro v' w' q1 q2 q3
      have l4 := q2.size
      rw [← hst] at q1
      have B4 := q2.blk (k4.blk B3 (fun q => q)) (fun q => by have := bg _ q; omega)
      simp -dsimp [go_sem]
      try simp -dsimp (disch := omega) only [IntWalk.i64_in, IntWalk.u64_in, IntWalk.u8_in]
      exact back_intro (i + 1, v', vp) (by simp -dsimp [go_sem]) (by simp -dsimp [go_sem]) ⟨.inl (by omega), s3.trans ((Keep.any k4).trans q2 (fun _ _ q => q) : Step (fun k => ownB vg = some k) w3 w') (fun j hj q => by have := bg j q; omega), B4, q1, by
          show Ow _ _ _ _ _ _
          rw [hos]; exact (op.keep k4).flat flat_int q2 (fun g hg q => bne g q hg), fun g hg => by have := (q3 g hg).2; rcases (q3 g hg).1 with q' | q'; (have := bg g q'; exact ⟨by omega, by omega⟩); exact ⟨by omega, by omega⟩, fun g hg => by have := bp g hg; exact ⟨this.1, by omega⟩, fun g hg hg2 => by rcases (q3 g hg).1 with q' | q'; exact bne g q' hg2; (have := bp g hg2; omega)⟩ (by show n.pages.length + (needI size).toNat - (i + 1) < n.pages.length + (needI size).toNat - i; omega)
end Go.Proofs.YtdfjfagljngciaaGreat
