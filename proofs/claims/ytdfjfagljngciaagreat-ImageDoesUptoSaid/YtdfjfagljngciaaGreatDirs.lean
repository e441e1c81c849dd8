/- Package dirs, and the library's functions that it leans on: what is found, put and dropped. Package dirs, and the library's functions that it leans on: a name is put, and dropped. slices.Insert of one entry into a slice of one's own. Package dirs: a name is put. -/
import Derived.Test.YtdfjfagljngciaaGreatInode
import Derived.Lib.Overlaps
import Derived.Test.YtdfjfagljngciaaGreatCs
import Derived.Lib.AppendZerosOnto
import Derived.Laws.CopyRow
import Derived.Shelf.Abstract
import Derived.Laws.Externs
set_option linter.all false
set_option maxRecDepth 100000
set_option maxHeartbeats 4000000
namespace Go.Proofs.YtdfjfagljngciaaGreat
open Go.RowKit Rx

def placeN (s : ByteArray) : List Entry → Int
  | [] => -1
  | x :: l => if x.name = s then 0 else (fun r => if r < 0 then -1 else r + 1) (placeN s l)
theorem placeN_spec (s : ByteArray) : ∀ (l : List Entry), (placeN s l = -1 ∧ ∀ x ∈ l, x.name ≠ s) ∨ ∃ i x, placeN s l = (i : Nat) ∧ l[i]? = some x ∧ x.name = s ∧ ∀ y ∈ l.take i, y.name ≠ s
  | [] => .inl ⟨rfl, by simp⟩
  | x :: l => by
    unfold placeN
    by_cases h : x.name = s
    · exact .inr ⟨0, x, by simp [h], rfl, h, by simp⟩
    · rcases placeN_spec s l with ⟨h1, h2⟩ | ⟨i, y, h1, h2, h3, h4⟩
      · refine .inl ⟨by simp [h, h1], fun y hy => ?_⟩
        rcases List.mem_cons.1 hy with rfl | hy
        · exact h
        · exact h2 y hy
      · refine .inr ⟨i + 1, y, by simp [h, h1]; omega, by simpa using h2, h3, fun z hz => ?_⟩
        rw [List.take_succ_cons] at hz
        rcases List.mem_cons.1 hz with rfl | hz
        · exact h
        · exact h4 z hz
theorem placeN_none (s : ByteArray) (l : List Entry) (h : ∀ x ∈ l, x.name ≠ s) : placeN s l = -1 := by
  rcases placeN_spec s l with ⟨h1, -⟩ | ⟨i, x, -, h2, h3, -⟩
  · exact h1
  · exact absurd h3 (h x (List.mem_of_getElem? h2))
theorem placeN_at (s : ByteArray) (l : List Entry) (i : Nat) (x : Entry) (hx : l[i]? = some x) (hs : x.name = s) (hn : ∀ y ∈ l.take i, y.name ≠ s) : placeN s l = i := by
  rcases placeN_spec s l with ⟨-, h2⟩ | ⟨j, y, h1, h2, h3, h4⟩
  · exact absurd hs (h2 x (List.mem_of_getElem? hx))
  · have hi := (List.getElem?_eq_some_iff.1 hx).1
    have hj := (List.getElem?_eq_some_iff.1 h2).1
    rcases Nat.lt_trichotomy i j with q | q | q
    · exact absurd hs (h4 x (List.mem_iff_getElem?.2 ⟨i, by rw [List.getElem?_take_of_lt q]; exact hx⟩))
    · rw [h1, q]
    · exact absurd h3 (hn y (List.mem_iff_getElem?.2 ⟨j, by rw [List.getElem?_take_of_lt q]; exact h2⟩))
theorem dirs_place (X : Nat → Prop) (v : Value) (l : List Entry) (s : ByteArray) (w : World) (h : Sl rEntry X w v l) (hl : l.length ≤ 2 ^ 40) :
    Calls Tryz.prog 133 #[v, .string s] w fun e w' => e = .returned (.int .i64 (placeN s l)) ∧ Keep w w' := by
  obtain ⟨a, c, rfl, -⟩ := id h
  refine calls_rx h133 Tryz.func133 rfl Tryz.mixed (by kernel_rfl) Tryz.results133 ?_
  simp -dsimp [go_sem]
  refine loop_intro (σ := Nat) (fun i => [.int .i64 i]) (fun i w' => i ≤ l.length ∧ Keep w w' ∧ ∀ y ∈ l.take i, y.name ≠ s) (fun i => l.length - i) 0 (by simp -dsimp [go_sem]; rfl) (by simp -dsimp [go_sem]) ⟨by simp, Keep.refl w, by simp⟩ ?_
  rintro i w1 ⟨hi, k1, hno⟩
  simp -dsimp [go_sem]
  refine condF_intro (fun g1 => ?_) (fun g1 => ?_)
  · simp at g1
    have hx : l[i]? = some l[i] := List.getElem?_eq_getElem _
    generalize l[i] = x at hx
    obtain ⟨b, off, c', e, hbl, -, hxo, hc0, hc1⟩ := (h.keep k1).entry hx
    cases e
    have i2 : (i : Int) < l.length := by omega
    by_cases g2 : x.name = s
    · have : placeN s l = i := placeN_at s l i x hx g2 hno
      simp -dsimp [go_sem, i2, hbl, hc0, hc1, g2, this]
      exact k1.alloc _
    · simp -dsimp [go_sem, i2, hbl, hc0, hc1, g2]
      try simp -dsimp (disch := omega) only [IntWalk.i64_in, IntWalk.u64_in, IntWalk.u8_in]
      refine back_intro (i + 1) (by simp -dsimp [go_sem]) (by simp -dsimp [go_sem]) ⟨by omega, k1.alloc _, fun y hy => ?_⟩ (by omega)
      rw [List.take_add_one, hx] at hy
      rcases List.mem_append.1 hy with q | q
      · exact hno y q
      · simp at q; subst q; exact g2
  · simp at g1
    obtain rfl : i = l.length := by omega
    rw [List.take_length] at hno
    have : placeN s l = -1 := placeN_none s l hno
    simp -dsimp [go_sem, this]
    exact k1
theorem name_Less (a b : ByteArray) (w : World) : Calls Tryz.prog 136 #[.string a, .string b] w fun e w' => e = .returned (.bool (Op.bytesLess a.toList b.toList)) ∧ w = w' := by
  refine calls_rx h136 Tryz.func136 rfl Tryz.mixed (by kernel_rfl) Tryz.results136 ?_
  simp -dsimp [go_sem]
def findN (l : List Entry) (s : ByteArray) : Int × Bool := match l.find? (fun x => decide (x.name = s)) with
  | some x => (x.ino, true)
  | none => (0, false)
theorem findN_place (l : List Entry) (s : ByteArray) : (placeN s l = -1 ∧ findN l s = (0, false)) ∨ ∃ i x, placeN s l = (i : Nat) ∧ l[i]? = some x ∧ x.name = s ∧ findN l s = (x.ino, true) := by
  rcases placeN_spec s l with ⟨h1, h2⟩ | ⟨i, x, h1, h2, h3, h4⟩
  · refine .inl ⟨h1, ?_⟩
    have : l.find? (fun x => decide (x.name = s)) = none := by rw [List.find?_eq_none]; intro x hx; simpa using h2 x hx
    simp [findN, this]
  · refine .inr ⟨i, x, h1, h2, h3, ?_⟩
    have hi := (List.getElem?_eq_some_iff.1 h2).1
    have : l.find? (fun x => decide (x.name = s)) = some x := by
      rw [List.find?_eq_some_iff_append]
      refine ⟨by simpa using h3, l.take i, l.drop (i + 1), ?_, fun y hy => by simpa using h4 y hy⟩
      have := List.drop_eq_getElem_cons hi
      rw [(List.getElem?_eq_some_iff.1 h2).2] at this
      rw [← this, List.take_append_drop]
    simp [findN, this]
theorem dirs_Find (X : Nat → Prop) (v : Value) (l : List Entry) (s : ByteArray) (w : World) (h : Sl rEntry X w v l) (hl : l.length ≤ 2 ^ 40) :
    Calls Tryz.prog 110 #[v, .string s] w fun e w' => e = .returned (.tuple #[.int .i64 (findN l s).1, .bool (findN l s).2]) ∧ Keep w w' := by
  obtain ⟨a, c, rfl, -⟩ := id h
  refine calls_rx h110 Tryz.func110 rfl Tryz.mixed (by kernel_rfl) Tryz.results110 ?_
  simp -dsimp [go_sem]
  refine (dirs_place X _ l s w h hl).mono ?_; rintro _ w1 ⟨rfl, k1⟩; refine ret_intro ?_
  rcases findN_place l s with ⟨h1, h2⟩ | ⟨i, x, h1, h2, h3, h4⟩
  · rw [h1, h2]
    simp -dsimp [go_sem]
    exact k1
  · rw [h1, h4]
    have hi := (List.getElem?_eq_some_iff.1 h2).1
    obtain ⟨b, off, c', e, hbl, -, hxo, hc0, hc1⟩ := (h.keep k1).entry h2
    cases e
    have i2 : (i : Int) < l.length := by omega
    have i3 : ¬ (i : Int) < 0 := by omega
    simp -dsimp [go_sem, i2, i3, hi, hbl, hc0, hc1]
    exact k1
end Go.Proofs.YtdfjfagljngciaaGreat

set_option linter.all false
set_option maxRecDepth 100000
set_option maxHeartbeats 4000000
namespace Go.Proofs.YtdfjfagljngciaaGreat
open Go.RowKit Rx

/-- The place of the first that p takes; -1. -/
def idxP (p : Entry → Bool) : List Entry → Int
  | [] => -1
  | x :: l => if p x = true then 0 else (fun r => if r < 0 then -1 else r + 1) (idxP p l)
theorem idxP_spec (p : Entry → Bool) : ∀ (l : List Entry), (idxP p l = -1 ∧ ∀ x ∈ l, p x = false) ∨ ∃ i x, idxP p l = (i : Nat) ∧ l[i]? = some x ∧ p x = true ∧ ∀ y ∈ l.take i, p y = false
  | [] => .inl ⟨rfl, by simp⟩
  | x :: l => by
    unfold idxP
    by_cases h : p x = true
    · exact .inr ⟨0, x, by simp [h], rfl, h, by simp⟩
    · rcases idxP_spec p l with ⟨h1, h2⟩ | ⟨i, y, h1, h2, h3, h4⟩
      · refine .inl ⟨by simp [h, h1], fun y hy => ?_⟩
        rcases List.mem_cons.1 hy with rfl | hy
        · simpa using h
        · exact h2 y hy
      · refine .inr ⟨i + 1, y, by simp [h, h1]; omega, by simpa using h2, h3, fun z hz => ?_⟩
        rw [List.take_succ_cons] at hz
        rcases List.mem_cons.1 hz with rfl | hz
        · simpa using h
        · exact h4 z hz
theorem idxP_none (p : Entry → Bool) (l : List Entry) (h : ∀ x ∈ l, p x = false) : idxP p l = -1 := by
  rcases idxP_spec p l with ⟨h1, -⟩ | ⟨i, x, -, h2, h3, -⟩
  · exact h1
  · rw [h x (List.mem_of_getElem? h2)] at h3; cases h3
theorem idxP_at (p : Entry → Bool) (l : List Entry) (i : Nat) (x : Entry) (hx : l[i]? = some x) (hs : p x = true) (hn : ∀ y ∈ l.take i, p y = false) : idxP p l = i := by
  rcases idxP_spec p l with ⟨-, h2⟩ | ⟨j, y, h1, h2, h3, h4⟩
  · rw [h2 x (List.mem_of_getElem? hx)] at hs; cases hs
  · rcases Nat.lt_trichotomy i j with q | q | q
    · rw [h4 x (List.mem_iff_getElem?.2 ⟨i, by rw [List.getElem?_take_of_lt q]; exact hx⟩)] at hs; cases hs
    · rw [h1, q]
    · rw [hn y (List.mem_iff_getElem?.2 ⟨j, by rw [List.getElem?_take_of_lt q]; exact h2⟩)] at h3; cases h3
/-- A function value that tells of an entry what p says. -/
def Tells (g : Nat) (lb : Array Value) (p : Entry → Bool) (w : World) : Prop := ∀ w1 x, Keep w w1 → x.ok → Calls Tryz.prog g (#[.agg x.enc.toArray] ++ lb) w1 fun e w' => e = .returned (.bool (p x)) ∧ Keep w1 w'
theorem Tells.keep {g : Nat} {lb : Array Value} {p : Entry → Bool} {w w' : World} (h : Tells g lb p w) (k : Keep w w') : Tells g lb p w' := fun w1 x k1 => h w1 x (Keep.trans k k1)
theorem index_func (g : Nat) (lb : Array Value) (p : Entry → Bool) (eg : ∀ args w, (callFunc g args).run Tryz.prog w = .ok (.enter g args) w) (X : Nat → Prop) (v : Value) (l : List Entry) (w : World) (h : Sl rEntry X w v l) (hl : l.length ≤ 2 ^ 40) (hp : Tells g lb p w) :
    Calls Tryz.prog 134 #[v, .func (.func g) #[] lb] w fun e w' => e = .returned (.int .i64 (idxP p l)) ∧ Keep w w' := by
  obtain ⟨a, c, rfl, -⟩ := id h
  refine calls_rx h134 Tryz.func134 rfl Tryz.mixed (by kernel_rfl) Tryz.results134 ?_
  simp -dsimp [go_sem]
  refine loop_intro (σ := Nat) (fun i => [.int .i64 i]) (fun i w' => i ≤ l.length ∧ Keep w w' ∧ ∀ y ∈ l.take i, p y = false) (fun i => l.length - i) 0 (by simp -dsimp [go_sem]; rfl) (by simp -dsimp [go_sem]) ⟨by simp, Keep.refl w, by simp⟩ ?_
  rintro i w1 ⟨hi, k1, hno⟩
  simp -dsimp [go_sem]
  refine condF_intro (fun g1 => ?_) (fun g1 => ?_)
  · simp at g1
    have hx : l[i]? = some l[i] := List.getElem?_eq_getElem _
    generalize l[i] = x at hx
    obtain ⟨b, off, c', e, hbl, -, hxo, hc0, hc1⟩ := (h.keep k1).entry hx
    cases e
    have i2 : (i : Int) < l.length := by omega
    have hg := hp w1 x k1 hxo
    unfold Entry.enc at hg
    have eg' : ∀ w, (callFunc g (#[.agg #[.string x.name, .int .i64 x.ino]] ++ lb)).run Tryz.prog w = .ok (.enter g (#[.agg #[.string x.name, .int .i64 x.ino]] ++ lb)) w := eg _
    simp -dsimp [go_sem, i2, hbl, hc0, hc1, eg']
    refine hg.mono ?_; rintro _ w2 ⟨rfl, k2⟩; refine ret_intro ?_
    by_cases g2 : p x = true
    · simp -dsimp [go_sem, g2, idxP_at p l i x hx g2 hno]
      exact Keep.trans k1 k2
    · simp at g2
      simp -dsimp [go_sem, g2]
      try simp -dsimp (disch := omega) only [IntWalk.i64_in, IntWalk.u64_in, IntWalk.u8_in]
      refine back_intro (i + 1) (by simp -dsimp [go_sem]) (by simp -dsimp [go_sem]) ⟨by omega, Keep.trans k1 k2, fun y hy => ?_⟩ (by omega)
      rw [List.take_add_one, hx] at hy
      rcases List.mem_append.1 hy with q | q
      · exact hno y q
      · simp at q; subst q; exact g2
  · simp at g1
    obtain rfl : i = l.length := by omega
    rw [List.take_length] at hno
    simp -dsimp [go_sem, idxP_none p l hno]
    exact k1
theorem put_tells (b : Nat) (s : ByteArray) (w : World) (hc : w.cell? ⟨b, 0, none⟩ = some (.string s)) (hl : b < w.heap.size) : Tells 135 #[.pointer (some ⟨b, 0, none⟩)] (fun x => Op.bytesLess s.toList x.name.toList) w := by
  intro w1 x k1 hx
  have hc' := k1.cell hc (fun q => q)
  have hl' := k1.lt hl
  refine calls_rx h135 Tryz.func135 rfl Tryz.mixed (by kernel_rfl) Tryz.results135 ?_
  unfold Entry.enc
  have hne : ¬ b = w1.heap.size := by omega
  simp -dsimp [go_sem, hc', hl', hne]
  refine (name_Less s x.name _).mono ?_; rintro _ w2 ⟨rfl, rfl⟩; refine ret_intro ?_
  simp -dsimp [go_sem]
  exact keep_alloc w1 _
theorem drop_tells (b : Nat) (s : ByteArray) (w : World) (hc : w.cell? ⟨b, 0, none⟩ = some (.string s)) (hl : b < w.heap.size) : Tells 139 #[.pointer (some ⟨b, 0, none⟩)] (fun x => decide (x.name = s)) w := by
  intro w1 x k1 hx
  have hc' := k1.cell hc (fun q => q)
  have hl' := k1.lt hl
  refine calls_rx h139 Tryz.func139 rfl Tryz.mixed (by kernel_rfl) Tryz.results139 ?_
  unfold Entry.enc
  have hne : ¬ b = w1.heap.size := by omega
  simp -dsimp [go_sem, hc', hl', hne]
  exact keep_alloc w1 _
theorem delete_func (g : Nat) (lb : Array Value) (p : Entry → Bool) (eg : ∀ args w, (callFunc g args).run Tryz.prog w = .ok (.enter g args) w) (v : Value) (l : List Entry) (w : World) (h : Ow rEntry 110 (fun _ => True) w v l) (hl : l.length ≤ 2 ^ 40)
    (hp : ∀ w', Step (fun k => ownB v = some k) w w' → Tells g lb p w') :
    Calls Tryz.prog 138 #[v, .func (.func g) #[] lb] w fun e w' => ∃ v', e = .returned v' ∧ Ow rEntry 110 (fun _ => True) w' v' (l.filter (fun x => !p x)) ∧ Step (fun k => ownB v = some k) w w' ∧ ∀ b, ownB v' = some b → ownB v = some b := by
  obtain ⟨a, c, rfl, hc1, hc2⟩ := h.slice
  refine calls_rx h138 Tryz.func138 rfl Tryz.mixed (by kernel_rfl) Tryz.results138 ?_
  simp -dsimp [go_sem]
  refine (index_func g lb p eg (fun _ => False) _ l w ((h.all flat_entry).sl (fun _ _ q => q)) hl (hp w (Step.refl _ _))).mono ?_; rintro _ w1 ⟨rfl, k1⟩; refine ret_intro ?_
  rcases idxP_spec p l with ⟨h1, h2⟩ | ⟨i0, x0, h1, h2, h3, h4⟩
  · rw [h1]
    simp -dsimp [go_sem]
    have : l.filter (fun x => !p x) = l := List.filter_eq_self.2 (fun x hx => by simp [h2 x hx])
    rw [this]
    exact ⟨h.keep k1, k1.any⟩
  · rw [h1]
    have i0l := (List.getElem?_eq_some_iff.1 h2).1
    have i1 : ¬ (i0 : Int) = -1 := by omega
    simp -dsimp [go_sem, i1]
    try simp -dsimp (disch := omega) only [IntWalk.i64_in, IntWalk.u64_in, IntWalk.u8_in]
    refine loop_intro (σ := Nat × Nat × List Entry) (fun s => [.int .i64 s.1, .int .i64 s.2.1]) (fun s w' => s.1 < s.2.1 ∧ s.2.1 ≤ l.length ∧ s.2.2.length = l.length ∧ s.2.2.take s.1 = (l.take s.2.1).filter (fun x => !p x) ∧ s.2.2.drop s.2.1 = l.drop s.2.1 ∧
      Ow rEntry 110 (fun _ => True) w' (.slice a l.length c) s.2.2 ∧ Step (fun k => ownB (.slice a l.length c) = some k) w w') (fun s => l.length - s.2.1) (i0, i0 + 1, l) (by simp -dsimp [go_sem]; rfl) (by simp -dsimp [go_sem]) ⟨by show i0 < i0 + 1; omega, i0l, rfl, ?_, rfl, h.keep k1, k1.any⟩ ?_
    · show l.take i0 = (l.take (i0 + 1)).filter (fun x => !p x)
      rw [List.take_add_one, h2, List.filter_append, List.filter_eq_self.2 (fun x hx => by simp [h4 x hx])]
      simp [h3]
    rintro ⟨i, j, cur⟩ w2 ⟨hij, hj, hcl, htk, hdr, o2, s2⟩
    simp only at hij hj hcl htk hdr o2
    simp -dsimp [go_sem]
    refine condF_intro (fun g1 => ?_) (fun g1 => ?_)
    · simp at g1
      have hx : l[j]? = some l[j] := List.getElem?_eq_getElem _
      generalize l[j] = x at hx
      have hxc : cur[j]? = some x := by
        have := congrArg (fun q => q[0]?) hdr
        simp only [List.getElem?_drop, Nat.add_zero] at this
        rw [this]; exact hx
      obtain ⟨gb, off, c', cs, e, hgl, hgo, ⟨rfl, hxo⟩, hgc, hgf, hset⟩ := o2.at hxc
      simp only [Value.slice.injEq, Option.some.injEq] at e
      obtain ⟨rfl, hcl', rfl⟩ := e
      have hc0 := hgc 0 _ rfl
      have hc1 := hgc 1 _ rfl
      simp only [rEntry, Nat.add_zero] at hc0 hc1
      have j2 : (j : Int) < l.length := by omega
      simp -dsimp [go_sem, j2, hgl, hc0, hc1]
      have ht := hp w2 s2 _ x (keep_alloc w2 (.cells #[.string x.name, .int .i64 x.ino] 110)) hxo
      unfold Entry.enc at ht
      have eg' : ∀ w, (callFunc g (#[.agg #[.string x.name, .int .i64 x.ino]] ++ lb)).run Tryz.prog w = .ok (.enter g (#[.agg #[.string x.name, .int .i64 x.ino]] ++ lb)) w := eg _
      simp -dsimp [go_sem, j2, hgl, hc0, hc1, eg']
      refine ht.mono ?_; rintro _ w3 ⟨rfl, k3⟩; refine ret_intro ?_
      have B3 := k3.blk (heap_alloc_new w2 (.cells #[.string x.name, .int .i64 x.ino] 110)) (fun q => q)
      have k23 := Keep.trans (keep_alloc w2 (.cells #[.string x.name, .int .i64 x.ino] 110)) k3
      have o3 := o2.keep k23
      have s3 : Step (fun k => ownB (.slice (some ⟨gb, off, none⟩) l.length c) = some k) w w3 := s2.then k23
      have htk1 : l.take (j + 1) = l.take j ++ [x] := by rw [List.take_add_one, hx]; rfl
      have hdr1 : cur.drop (j + 1) = l.drop (j + 1) := by
        have := congrArg (List.drop 1) hdr
        simpa [List.drop_drop, Nat.add_comm] using this
      have B3c := blk_cell B3; have B3f := blk_free B3; have B3l := blk_lt B3
      by_cases hpx : p x = true
      · simp -dsimp [go_sem, hpx]
        try simp -dsimp (disch := omega) only [IntWalk.i64_in, IntWalk.u64_in, IntWalk.u8_in]
        exact back_intro (i, j + 1, cur) (by simp -dsimp [go_sem]) (by simp -dsimp [go_sem]) ⟨by show i < j + 1; omega, by show j + 1 ≤ l.length; omega, hcl, by show cur.take i = _; rw [htk1, List.filter_append, htk]; simp [hpx], hdr1, o3, s3⟩ (by show l.length - (j + 1) < l.length - j; omega)
      · simp at hpx
        have hyi : cur[i]? = some cur[i] := List.getElem?_eq_getElem (by omega)
        generalize cur[i]'(by omega) = y at hyi
        obtain ⟨gb', off', c'', cs', e', hgl', hgo', ⟨rfl, hyo⟩, hgc', hgf', hset'⟩ := o3.at hyi
        simp only [Value.slice.injEq, Option.some.injEq, Addr.mk.injEq, and_true] at e'
        obtain ⟨⟨rfl, rfl⟩, -, rfl⟩ := e'
        have hd0 := hgc' 0 _ rfl
        have hd1 := hgc' 1 _ rfl
        simp only [rEntry, Nat.add_zero] at hd0 hd1
        have hf0 := hgf' (off + i * 2)
        have hf1 := hgf' (off + i * 2 + 1)
        have i2 : (i : Int) < l.length := by omega
        have o4 := hset' flat_entry x _ ⟨rfl, hxo⟩
        simp -dsimp [go_sem, hpx, B3c, B3f, B3l, i2, hgl', hd0, hd1, hf0, hf1]
        try simp -dsimp (disch := omega) only [IntWalk.i64_in, IntWalk.u64_in, IntWalk.u8_in]
        refine back_intro (i + 1, j + 1, cur.set i x) (by simp -dsimp [go_sem]) (by simp -dsimp [go_sem]) ⟨by show i + 1 < j + 1; omega, by show j + 1 ≤ l.length; omega, by show (cur.set i x).length = l.length; rw [List.length_set]; exact hcl, ?_, ?_, o4, ?_⟩ (by show l.length - (j + 1) < l.length - j; omega)
        · show (cur.set i x).take (i + 1) = (l.take (j + 1)).filter (fun x => !p x)
          rw [htk1, List.filter_append, ← htk, List.take_add_one, List.getElem?_set_self (by omega), List.take_set, List.set_eq_of_length_le (by simp; omega)]
          simp [hpx]
        · show (cur.set i x).drop (j + 1) = l.drop (j + 1)
          rw [List.drop_set_of_lt (by omega)]; exact hdr1
        · exact (s3.set (p := ⟨gb, off + i * 2, none⟩) (.inl hgo') _).set (p := ⟨gb, off + i * 2 + 1, none⟩) (.inl hgo') _
    · simp at g1
      obtain rfl : j = l.length := by omega
      rw [List.take_length] at htk
      have il : i ≤ l.length := by omega
      have il2 : ¬ (l.length : Int) < i := by omega
      have ic : i ≤ c := by omega
      have hres : l.filter (fun x => !p x) = cur.take i := htk.symm
      rw [hres]
      have hslice : ∀ g' off' : Nat, sliced (some ⟨g', off', none⟩) i l.length c 2 = .slice (if c = i then some ⟨g', off', none⟩ else some ⟨g', off' + i * 2, none⟩) (l.length - i) (c - i) := fun g' off' => by unfold sliced; split <;> simp [Addr.add]
      by_cases hil : i = l.length
      · subst hil
        have q : ∀ b : Option Addr, (Builtin.clear_ #[40] 0 #[.slice b (l.length - l.length) (c - l.length)]).run Tryz.prog w2 = .ok (.tuple #[]) w2 := fun b => by rw [Nat.sub_self]; exact run_clear0 w2 b _ Tryz.underlying40
        simp only [Nat.sub_self] at q
        simp -dsimp [go_sem, il, ic, q]
        rw [← hcl, List.take_length]
        rw [hcl]
        exact ⟨o2, s2⟩
      · have hi3 : 0 < l.length - i := by omega
        obtain ⟨gb, off, cu, rfl, hgb, hsz, xs, z1, z2⟩ := o2.blk (by omega)
        have hmul : i * 2 + (l.length - i) * 2 = l.length * 2 := by omega
        have hmul2 : l.length * 2 ≤ c * 2 := by omega
        simp only [rEntry] at hsz
        obtain ⟨zs, hzl, hrun⟩ := run_clearS (P := Tryz.prog) w2 (t := 40) (ty := 0) (e := 110) (z := .agg #[.string .empty, .int .i64 0]) (Tryz.zeroValue110 w2) (by intro u hu; simp [Value.cells] at hu; rcases hu with rfl | rfl <;> rfl) Tryz.underlying40 (g := gb) (o := off + i * 2) (k := l.length - i) (c := c - i) hi3 hgb (by simp [Value.cells]; omega)
        simp [Value.cells] at hzl
        have hci : ¬ c = i := by omega
        simp -dsimp [go_sem, il, ic, hci, hrun]
        refine ⟨Ow.head flat_entry z1 z2 (by omega) (by simp only [rEntry]; omega), s2.trans (step_sets gb zs _ w2) (fun k _ q => ?_), fun b hb => by simpa [ownB] using hb⟩
        subst q
        simp [ownB]; omega
theorem delete_func_eg : ∀ args w, (callFunc 139 args).run Tryz.prog w = .ok (.enter 139 args) w := enters_of Tryz.func139 (by kernel_rfl) rfl
theorem index_func_eg : ∀ args w, (callFunc 135 args).run Tryz.prog w = .ok (.enter 135 args) w := enters_of Tryz.func135 (by kernel_rfl) rfl
def dropE (l : List Entry) (s : ByteArray) : List Entry × Bool := (l.filter (fun x => !decide (x.name = s)), decide ((l.filter (fun x => !decide (x.name = s))).length < l.length))
theorem dirs_Drop (X : Nat → Prop) (v : Value) (l : List Entry) (s : ByteArray) (w : World) (h : Sl rEntry X w v l) (hl : l.length ≤ 2 ^ 40) :
    Calls Tryz.prog 112 #[v, .string s] w fun e w' => ∃ v', e = .returned (.tuple #[v', .bool (dropE l s).2]) ∧ Ow rEntry 110 (fun _ => True) w' v' (dropE l s).1 ∧ Keep w w' ∧ ∀ g, ownB v' = some g → w.heap.size ≤ g := by
  obtain ⟨a, c, rfl, -⟩ := id h
  refine calls_rx h112 Tryz.func112 rfl Tryz.mixed (by kernel_rfl) Tryz.results112 ?_
  simp -dsimp [go_sem]
  have E0 := heap_alloc_new w (.cells #[.string s] 9)
  have k0 := keep_alloc w (.cells #[.string s] 9)
  refine (clone_entries X _ l (w.alloc (.cells #[.string s] 9)) (h.keep k0) hl).mono ?_; rintro _ w1 ⟨v1, rfl, o1, k1, b1⟩; refine ret_intro ?_
  replace E0 := Step.blk k1 E0 (fun q => q)
  obtain ⟨a1, c1, rfl, hc1, hc2⟩ := o1.slice
  simp -dsimp [go_sem]
  have hb1 : ∀ g, ownB (.slice a1 l.length c1) = some g → w.heap.size + 1 ≤ g := fun g hg => by have := b1 g hg; simp at this; omega
  refine (delete_func 139 #[.pointer (some ⟨w.heap.size, 0, none⟩)] (fun x => decide (x.name = s)) delete_func_eg _ l w1 (o1.all flat_entry) hl (fun w' s' => drop_tells w.heap.size s w' (s'.cell (blk_cell E0 0) (fun q => by have := hb1 w.heap.size q; omega)) (s'.lt (blk_lt E0)))).mono ?_; rintro _ w2 ⟨v2, rfl, o2, s2, b2⟩; refine ret_intro ?_
  obtain ⟨a2, c2, rfl, -, -⟩ := o2.slice
  simp -dsimp [go_sem]
  refine ⟨_, ⟨rfl, by simp [dropE, List.length_filter_lt_length_iff_exists]⟩, o2, Step.keep (Keep.trans k0 k1) s2 (fun k q => ?_), fun g hg => ?_⟩
  · have := hb1 k q; omega
  · have := hb1 g (b2 g hg); omega
end Go.Proofs.YtdfjfagljngciaaGreat

set_option linter.all false
set_option maxRecDepth 100000
set_option maxHeartbeats 4000000
namespace Go.Proofs.YtdfjfagljngciaaGreat
open Go.RowKit Rx

theorem infoEntry : (Tryz.prog.info? 110).map (fun i => (i.zero, i.size, i.bytes)) = some (some (.agg #[.string .empty, .int .i64 0]), 2, 24) := by kernel_rfl
theorem ins_grow {cn : Array Value} {xs ys : List Value} {k n : Nat} (hk : k ≤ xs.length) (hn : xs.length = n) (hc : n + ys.length ≤ cn.size) (ht : cn.toList.take k = xs.take k) :
    (putL (putL cn k ys) (k + ys.length) (xs.drop k)).toList.take (n + ys.length) = xs.take k ++ ys ++ xs.drop k := by
  have h1 := toList_putL ys cn k (by omega)
  have hs1 : (putL cn k ys).size = cn.size := by rw [← Array.length_toList, h1]; simp; omega
  have h2 := toList_putL (xs.drop k) (putL cn k ys) (k + ys.length) (by rw [hs1]; simp; omega)
  have e : ∀ j, j < k → cn.toList[j]? = xs[j]? := fun j hj => by
    have := congrArg (fun l => l[j]?) ht
    simpa [List.getElem?_take, hj] using this
  rw [h2, h1]
  apply List.ext_getElem?
  intro j
  simp only [List.getElem?_take, List.getElem?_drop, List.getElem?_append, List.length_take, List.length_append, List.length_drop, Array.length_toList] at hn hk ⊢
  repeat' split
  all_goals first | rfl | omega | (congr 1; omega) | (exfalso; omega) | exact e _ (by omega) | (rw [e _ (by omega)]; congr 1; omega) | exact (List.getElem?_eq_none (by omega)).symm
theorem ins_shift {cu : Array Value} {xs ys : List Value} {o k n : Nat} (hk : k ≤ xs.length) (hn : xs.length = n) (hc : o + n + ys.length ≤ cu.size) (ht : (cu.toList.drop o).take n = xs) :
    ((putL (putL cu (o + (k + ys.length)) (xs.drop k)) (o + k) ys).toList.drop o).take (n + ys.length) = xs.take k ++ ys ++ xs.drop k := by
  have h1 := toList_putL (xs.drop k) cu (o + (k + ys.length)) (by simp; omega)
  have hs1 : (putL cu (o + (k + ys.length)) (xs.drop k)).size = cu.size := by rw [← Array.length_toList, h1]; simp; omega
  have h2 := toList_putL ys (putL cu (o + (k + ys.length)) (xs.drop k)) (o + k) (by rw [hs1]; omega)
  rw [h2, h1]
  subst ht
  apply List.ext_getElem?
  intro j
  simp only [List.getElem?_take, List.getElem?_drop, List.getElem?_append, List.length_take, List.length_append, List.length_drop, Array.length_toList] at hn hk ⊢
  repeat' split
  all_goals first | rfl | omega | (congr 1; omega) | (exfalso; omega) | (rw [List.getElem?_eq_none (by simp; omega)])
theorem insert_one (B : Nat) (v : Value) (l : List Entry) (i : Nat) (x : Entry) (vb : Nat) (w : World) (h : Ow rEntry 110 (fun _ => True) w v l) (hB : ∀ g, ownB v = some g → B ≤ g) (hl : l.length ≤ 2 ^ 40) (hi : i ≤ l.length) (hxo : x.ok)
    (hvb : w.heap[vb]? = some (.cells #[.string x.name, .int .i64 x.ino] 110 (0, 0))) (hne : ownB v ≠ some vb) :
    Calls Tryz.prog 137 #[v, .int .i64 i, .slice (some ⟨vb, 0, none⟩) 1 1] w fun e w' => ∃ v', e = .returned v' ∧ Ow rEntry 110 (fun _ => True) w' v' (l.take i ++ x :: l.drop i) ∧ Step (fun k => ownB v = some k) w w' ∧ ∀ b, ownB v' = some b → ownB v = some b ∨ w.heap.size ≤ b := by
  obtain ⟨a, c, rfl, hc1, hc2⟩ := h.slice
  refine calls_rx h137 Tryz.func137 rfl Tryz.mixed (by kernel_rfl) Tryz.results137 ?_
  have ic : i ≤ c := by omega
  have il : ¬ (l.length : Int) < i := by omega
  simp -dsimp [go_sem, ic, hi, il]
  have hx1 : Sl rEntry (fun _ => False) w (.slice (some ⟨vb, 0, none⟩) 1 1) [x] := Sl.of_blk (r := rEntry) (l := [x]) hvb id (Cs.one (r := rEntry) (x := x) (cs := [.string x.name, .int .i64 x.ino]) ⟨rfl, hxo⟩) rfl (by unfold maxLen; omega)
  by_cases g1 : i = l.length
  · have g1' : (i : Int) = l.length := by omega
    simp -dsimp [go_sem, g1']
    refine app_flat 24 flat_entry Tryz.underlying40 (by kernel_rfl) one_entry h hx1 (by show l.length + 1 ≤ maxLen; unfold maxLen; omega) (by show (l.length + 1) * 24 ≤ _; omega) ?_
    intro v' w' o1 s1 b1
    simp -dsimp [go_sem]
    rw [g1, List.take_length, List.drop_length]
    exact ⟨o1, s1, b1⟩
  have g1' : ¬ (i : Int) = l.length := by omega
  have e1 : IntKind.i64.wrap ((l.length : Int) + 1) = l.length + 1 := IntWalk.i64_in _ (by omega)
  by_cases g2 : c < l.length + 1
  · have g2' : (c : Int) < l.length + 1 := by omega
    have e2 : IntKind.i64.wrap ((l.length : Int) + 1 - i) = ((l.length + 1 - i : Nat) : Int) := by rw [IntWalk.i64_in _ (by omega)]; omega
    simp -dsimp [go_sem, g1', e1, g2', e2, ic, hi]
    obtain ⟨gb, off, cu, rfl, hgb, hsz, xs, z1, z2⟩ := h.blk (by omega)
    simp only [rEntry] at hsz z1
    have hxl : xs.length = l.length * 2 := z1.1
    obtain ⟨a', c', e', -, -, hs⟩ := z1.slice
    simp only [Value.slice.injEq] at e'
    obtain ⟨rfl, -, rfl⟩ := e'
    obtain ⟨g', off', e', hgl, -, hcell, hfr⟩ := hs (by omega)
    simp only [Option.some.injEq, Addr.mk.injEq, and_true] at e'
    obtain ⟨rfl, rfl⟩ := e'
    clear hs
    obtain ⟨ii, hi1, hi2, hi3, hi4⟩ := info_parts infoEntry
    have hold : (Builtin.firstCells ii.size i (.slice (some ⟨gb, off, none⟩) i c)).run Tryz.prog w.drew = .ok (xs.take (i * 2)).toArray w.drew := by
      rw [hi3]
      refine run_firstCells_some (P := Tryz.prog) w.drew 2 i ⟨gb, off, none⟩ i c (xs.take (i * 2)) (by rw [List.length_take]; omega) (fun j u hu => ?_)
      rw [List.getElem?_take] at hu
      split at hu
      · rw [Addr.add_mid]; exact hcell j u hu
      · cases hu
    have hgr := Go.Lib.run_append_grow_zeros (P := Tryz.prog) w 40 3 40 110 ii _ .i64 .i64 Tryz.underlying40 Tryz.underlying3 hi1 hi2 (some ⟨gb, off, none⟩) i c _ hold (l.length + 1 - i) (by omega) (by omega) (by omega) (by omega) (by rw [hi4]; omega) (by
      rw [hi4, show i + (l.length + 1 - i) = l.length + 1 by omega]; exact growslice_fits g2 (by omega))
    rw [show i + (l.length + 1 - i) = l.length + 1 by omega] at hgr
    have hge := grownCap_ge w (l.length + 1) c 110
    have hcm := grownCap_le_maxLen w (l.length + 1) c 110 (by unfold maxLen; omega)
    generalize grownCap w (l.length + 1) c 110 = cp at hgr hge hcm
    refine appF_intro hgr ?_
    have hcs : ((xs.take (i * 2)).toArray ++ Builtin.zeroCells (Value.agg #[Value.string ByteArray.empty, Value.int .i64 0]).cells (l.length + 1 - i) ++ Builtin.zeroCells (Value.agg #[Value.string ByteArray.empty, Value.int .i64 0]).cells (cp - (l.length + 1))).size = cp * 2 := by
      simp [size_zeroCells, Value.cells, hxl]; omega
    have hct : ((xs.take (i * 2)).toArray ++ Builtin.zeroCells (Value.agg #[Value.string ByteArray.empty, Value.int .i64 0]).cells (l.length + 1 - i) ++ Builtin.zeroCells (Value.agg #[Value.string ByteArray.empty, Value.int .i64 0]).cells (cp - (l.length + 1))).toList.take (i * 2) = xs.take (i * 2) := by
      have hx2 : (xs.take (i * 2)).length = i * 2 := by rw [List.length_take]; omega
      simp only [Array.toList_append, List.append_assoc]
      rw [List.take_append, List.take_of_length_le (by omega), show i * 2 - (xs.take (i * 2)).length = 0 by omega]
      simp
    generalize ((xs.take (i * 2)).toArray ++ _ ++ _) = cn at hcs hgr hct
    have N0 : (w.drew.alloc (.cells cn 110)).heap[w.heap.size]? = some (.cells cn 110 (0, 0)) := heap_alloc_new w.drew _
    have kN : Keep w (w.drew.alloc (.cells cn 110)) := (keep_drew w).alloc _
    generalize w.drew.alloc (.cells cn 110) = wn at N0 kN ⊢
    have g6 : (i : Int) ≤ l.length + 1 := by omega
    have g7 : ¬ cp = i := by omega
    have g8 : ¬ cp = i + 1 := by omega
    have e3 : IntKind.i64.wrap ((i : Int) + 1) = i + 1 := IntWalk.i64_in _ (by omega)
    have g9 : 0 ≤ (i : Int) + 1 := by omega
    have g10 : ¬ c = i := by omega
    have hsz2 : (Tryz.prog.info? 110).map (·.size) = some 2 := by kernel_rfl
    have hyl : [Value.string x.name, Value.int .i64 x.ino].length = 2 := rfl
    have hvc : ∀ j u, [Value.string x.name, Value.int .i64 x.ino][j]? = some u → wn.cell? ((⟨vb, 0, none⟩ : Addr).add j) = some u := fun j u hu => by
      rw [Addr.add_mid, blk_cell (kN.blk hvb (fun q => q))]; simpa using hu
    have hcp1 : ∀ ty, (Builtin.copy_ #[40, 40] ty #[.slice (some ⟨w.heap.size, i * 2, none⟩) (l.length + 1 - i) (cp - i), .slice (some ⟨vb, 0, none⟩) 1 1]).run Tryz.prog wn = .ok (goInt 1) (wn.setCells w.heap.size (i * 2) [Value.string x.name, Value.int .i64 x.ino]) := fun ty => by
      have := run_copyS (P := Tryz.prog) wn (t := 40) (t' := 40) (ty := ty) 2 Tryz.underlying40 hsz2 (g := w.heap.size) (o := i * 2) (dl := l.length + 1 - i) (dc := cp - i) (sl := 1) (sc := 1) (a := ⟨vb, 0, none⟩) [Value.string x.name, Value.int .i64 x.ino] (by rw [show Nat.min 1 (l.length + 1 - i) = 1 from Nat.min_eq_left (by omega)]; rfl) hvc N0 (by simp; omega) (by intro u hu; simp at hu; rcases hu with rfl | rfl <;> rfl)
      rwa [show Nat.min 1 (l.length + 1 - i) = 1 from Nat.min_eq_left (by omega)] at this
    have N1 := blk_sets (w := wn) [Value.string x.name, Value.int .i64 x.ino] (i * 2) N0
    have s1 := step_sets w.heap.size [Value.string x.name, Value.int .i64 x.ino] (i * 2) wn
    have hsN1 : (putL cn (i * 2) [Value.string x.name, Value.int .i64 x.ino]).size = cn.size := by
      rw [← Array.length_toList, toList_putL _ _ _ (by simp; omega)]; simp; omega
    have hgw : gb < w.heap.size := hgl
    have hsc : ∀ j u, (xs.drop (i * 2))[j]? = some u → (wn.setCells w.heap.size (i * 2) [Value.string x.name, Value.int .i64 x.ino]).drew.cell? ((⟨gb, off + i * 2, none⟩ : Addr).add j) = some u := fun j u hu => by
      rw [List.getElem?_drop] at hu
      rw [Addr.add_mid, Nat.add_assoc]
      exact (s1.drew).cell (kN.cell (hcell _ u hu) (fun q => q)) (fun q => by have : gb = w.heap.size := q; omega)
    have hxd : (xs.drop (i * 2)).length = (l.length - i) * 2 := by rw [List.length_drop]; omega
    have hcp2 : ∀ ty, (Builtin.copy_ #[40, 40] ty #[.slice (some ⟨w.heap.size, (i + 1) * 2, none⟩) (l.length - i) (cp - (i + 1)), .slice (some ⟨gb, off + i * 2, none⟩) (l.length - i) (c - i)]).run Tryz.prog (wn.setCells w.heap.size (i * 2) [Value.string x.name, Value.int .i64 x.ino]).drew =   .ok (goInt ((l.length - i : Nat) : Int)) ((wn.setCells w.heap.size (i * 2) [Value.string x.name, Value.int .i64 x.ino]).drew.setCells w.heap.size ((i + 1) * 2) (xs.drop (i * 2))) := fun ty => by
      have := run_copyS (P := Tryz.prog) (wn.setCells w.heap.size (i * 2) [Value.string x.name, Value.int .i64 x.ino]).drew (t := 40) (t' := 40) (ty := ty) 2 Tryz.underlying40 hsz2 (g := w.heap.size) (o := (i + 1) * 2) (dl := l.length - i) (dc := cp - (i + 1)) (sl := l.length - i) (sc := c - i) (a := ⟨gb, off + i * 2, none⟩) (xs.drop (i * 2)) (by rw [hxd]; simp [Nat.min_def]) hsc N1 (by rw [hsN1, hxd]; omega) (fun u hu => (z2.ones one_entry) u (List.mem_of_mem_drop hu))
      rwa [show Nat.min (l.length - i) (l.length - i) = l.length - i by simp [Nat.min_def]] at this
    have N1d : (wn.setCells w.heap.size (i * 2) [Value.string x.name, Value.int .i64 x.ino]).drew.heap[w.heap.size]? = some (.cells (putL cn (i * 2) [Value.string x.name, Value.int .i64 x.ino]) 110 (0, 0)) := N1
    have N2 := blk_sets (w := w) (xs.drop (i * 2)) ((i + 1) * 2) N1d
    have s2 := step_sets w.heap.size (xs.drop (i * 2)) ((i + 1) * 2) (wn.setCells w.heap.size (i * 2) [Value.string x.name, Value.int .i64 x.ino]).drew
    have hfin := ins_grow (cn := cn) (xs := xs) (ys := [Value.string x.name, Value.int .i64 x.ino]) (k := i * 2) (n := l.length * 2) (by omega) hxl (by simp; omega) hct
    simp only [hyl] at hfin
    simp -dsimp [go_sem, ic, hi, e2, g6, g7, hcp1, e3, g9, g8, g10, hcp2]
    have e22 : (i + 1) * 2 = i * 2 + 2 := by omega
    rw [e22] at N2 s2 ⊢
    have hfin2 : (putL (putL cn (i * 2) [Value.string x.name, Value.int .i64 x.ino]) (i * 2 + 2) (xs.drop (i * 2))).size = cn.size := by
      rw [← Array.length_toList, toList_putL _ _ _ (by rw [hsN1, hxd]; omega)]
      simp only [List.length_append, List.length_take, List.length_drop, Array.length_toList]; omega
    have hll : (l.take i ++ x :: l.drop i).length = l.length + 1 := by simp; omega
    refine ⟨.inr ⟨xs.take (i * 2) ++ [Value.string x.name, Value.int .i64 x.ino] ++ xs.drop (i * 2), ?_, ?_⟩, ?_, fun b hb => .inr ?_⟩
    · rw [hll]
      refine ⟨by simp [rEntry]; omega, .inr ⟨w.heap.size, 0, cp, _, rfl, N2, hge, hcm, ?_, ?_⟩⟩
      · rw [hfin2]; simp only [rEntry]; omega
      · rw [List.drop_zero, show (l.length + 1) * rEntry.n = l.length * 2 + 2 by simp only [rEntry]; omega]
        exact hfin
    · rw [List.append_assoc]
      exact Cs.append (by simpa [rEntry] using (z2.take i).flat flat_entry (Y := fun _ => True)) (Cs.cons (r := rEntry) (cs := [Value.string x.name, Value.int .i64 x.ino]) ⟨rfl, hxo⟩ (by simpa [rEntry] using (z2.drop i).flat flat_entry (Y := fun _ => True)))
    · exact Keep.any (Step.keep (Step.keep kN s1.drew (fun k q => by rw [q]; exact Nat.le_refl _)) s2 (fun k q => by rw [q]; exact Nat.le_refl _))
    · simp [ownB] at hb; omega
  · have g2' : ¬ (c : Int) < l.length + 1 := by omega
    have g3 : 0 ≤ (l.length : Int) + 1 ∧ (l.length : Int) + 1 ≤ c := by omega
    have e2 : IntKind.i64.wrap ((i : Int) + 1) = i + 1 := IntWalk.i64_in _ (by omega)
    have g4 : 0 ≤ (i : Int) + 1 := by omega
    obtain ⟨gb, off, cu, rfl, hgb, hsz, xs, z1, z2⟩ := h.blk (by omega)
    have ci : ¬ c = i + 1 := by omega
    simp -dsimp [go_sem, g1', e1, g2', ic, hi, g3, e2, g4, ci]
    simp only [rEntry] at hsz z1
    have hgb2 := z1.2
    have hxl : xs.length = l.length * 2 := z1.1
    have hne' : vb ≠ gb := fun q => hne (by simp [ownB, q]; omega)
    have hov : (callFunc 149 #[.slice (some ⟨vb, 0, none⟩) 1 1, .slice (some ⟨gb, off + (i + 1) * 2, none⟩) (l.length - i) (c - (i + 1))]).run Tryz.prog w = .ok (.value (.bool false)) w := by
      rw [run_callFunc_extern Tryz.func149 (by kernel_rfl) (by kernel_rfl) (by kernel_rfl) (e := Extern.SlicesOverlaps.overlaps #[40, 40] #[4]) (by kernel_rfl),
        Go.Lib.run_overlaps_apart w 40 4 110 Tryz.underlying40 2 Tryz.sizeOf110 ⟨vb, 0, none⟩ ⟨gb, off + (i + 1) * 2, none⟩ 1 1 _ _ hne' 110 110 2 cu.size (by simp [World.shape?, hvb]) (by simp [World.shape?, hgb]) (by omega) (blk_free hvb 0) (blk_free hvb 2)]
      rfl
    have g5 : (i : Int) ≤ l.length + 1 := by omega
    have g10 : ¬ c = i := by omega
    have hsz2 : (Tryz.prog.info? 110).map (·.size) = some 2 := by kernel_rfl
    have hxd : (xs.drop (i * 2)).length = (l.length - i) * 2 := by rw [List.length_drop]; omega
    obtain ⟨cu', hcu, hk', hm', hs', ht'⟩ : ∃ cu', w.heap[gb]? = some (.cells cu' 110 (0, 0)) ∧ l.length ≤ c ∧ c ≤ maxLen ∧ off + c * 2 ≤ cu'.size ∧ (cu'.toList.drop off).take (l.length * 2) = xs := by
      rcases hgb2 with ⟨q, -⟩ | ⟨g', off', cap', cu', q, r1, r2, r3, r4, r5⟩
      · cases q
      · simp only [Value.slice.injEq, Option.some.injEq, Addr.mk.injEq, and_true, true_and] at q
        obtain ⟨⟨rfl, rfl⟩, rfl⟩ := q
        exact ⟨cu', r1, r2, r3, r4, r5⟩
    obtain rfl : cu' = cu := by rw [hgb] at hcu; cases hcu; rfl
    have hcell : ∀ j u, xs[j]? = some u → w.cell? ⟨gb, off + j, none⟩ = some u := fun j u hu => by
      rw [blk_cell hgb]
      rw [← ht', List.getElem?_take] at hu
      split at hu
      · rw [List.getElem?_drop] at hu; simpa using hu
      · cases hu
    have hgd : w.drew.heap[gb]? = some (.cells cu' 110 (0, 0)) := hgb
    have hcp1 : ∀ ty, (Builtin.copy_ #[40, 40] ty #[.slice (some ⟨gb, off + (i + 1) * 2, none⟩) (l.length - i) (c - (i + 1)), .slice (some ⟨gb, off + i * 2, none⟩) (l.length + 1 - i) (c - i)]).run Tryz.prog w.drew = .ok (goInt ((l.length - i : Nat) : Int)) (w.drew.setCells gb (off + (i + 1) * 2) (xs.drop (i * 2))) := fun ty => by
      have := run_copyS (P := Tryz.prog) w.drew (t := 40) (t' := 40) (ty := ty) 2 Tryz.underlying40 hsz2 (g := gb) (o := off + (i + 1) * 2) (dl := l.length - i) (dc := c - (i + 1)) (sl := l.length + 1 - i) (sc := c - i) (a := ⟨gb, off + i * 2, none⟩) (xs.drop (i * 2)) (by rw [hxd, show Nat.min (l.length + 1 - i) (l.length - i) = l.length - i from Nat.min_eq_right (by omega)])
        (fun j u hu => by rw [List.getElem?_drop] at hu; rw [Addr.add_mid, Nat.add_assoc]; exact hcell _ u hu) hgd (by rw [hxd]; omega) (fun u hu => (z2.ones one_entry) u (List.mem_of_mem_drop hu))
      rwa [show Nat.min (l.length + 1 - i) (l.length - i) = l.length - i from Nat.min_eq_right (by omega)] at this
    have N1 := blk_sets (w := w) (xs.drop (i * 2)) (off + (i + 1) * 2) hgd
    have s1 := step_sets gb (xs.drop (i * 2)) (off + (i + 1) * 2) w.drew
    have hsN1 : (putL cu' (off + (i + 1) * 2) (xs.drop (i * 2))).size = cu'.size := by
      rw [← Array.length_toList, toList_putL _ _ _ (by rw [hxd]; omega)]
      simp only [List.length_append, List.length_take, List.length_drop, Array.length_toList]; omega
    have hvc : ∀ j u, [Value.string x.name, Value.int .i64 x.ino][j]? = some u → (w.drew.setCells gb (off + (i + 1) * 2) (xs.drop (i * 2))).cell? ((⟨vb, 0, none⟩ : Addr).add j) = some u := fun j u hu => by
      rw [Addr.add_mid]
      refine s1.cell (a := ⟨vb, 0 + j, none⟩) ?_ hne'
      rw [show w.drew.cell? ⟨vb, 0 + j, none⟩ = w.cell? ⟨vb, 0 + j, none⟩ from rfl, blk_cell hvb]; simpa using hu
    have hcp2 : ∀ ty, (Builtin.copy_ #[40, 40] ty #[.slice (some ⟨gb, off + i * 2, none⟩) (l.length + 1 - i) (c - i), .slice (some ⟨vb, 0, none⟩) 1 1]).run Tryz.prog (w.drew.setCells gb (off + (i + 1) * 2) (xs.drop (i * 2))) = .ok (goInt 1) ((w.drew.setCells gb (off + (i + 1) * 2) (xs.drop (i * 2))).setCells gb (off + i * 2) [Value.string x.name, Value.int .i64 x.ino]) := fun ty => by
      have := run_copyS (P := Tryz.prog) (w.drew.setCells gb (off + (i + 1) * 2) (xs.drop (i * 2))) (t := 40) (t' := 40) (ty := ty) 2 Tryz.underlying40 hsz2 (g := gb) (o := off + i * 2) (dl := l.length + 1 - i) (dc := c - i) (sl := 1) (sc := 1) (a := ⟨vb, 0, none⟩) [Value.string x.name, Value.int .i64 x.ino] (by rw [show Nat.min 1 (l.length + 1 - i) = 1 from Nat.min_eq_left (by omega)]; rfl) hvc N1 (by rw [hsN1]; simp; omega) (by intro u hu; simp at hu; rcases hu with rfl | rfl <;> rfl)
      rwa [show Nat.min 1 (l.length + 1 - i) = 1 from Nat.min_eq_left (by omega)] at this
    have N2 := blk_sets (w := w) [Value.string x.name, Value.int .i64 x.ino] (off + i * 2) N1
    have s2 := step_sets gb [Value.string x.name, Value.int .i64 x.ino] (off + i * 2) (w.drew.setCells gb (off + (i + 1) * 2) (xs.drop (i * 2)))
    have hfin := ins_shift (cu := cu') (xs := xs) (ys := [Value.string x.name, Value.int .i64 x.ino]) (o := off) (k := i * 2) (n := l.length * 2) (by omega) hxl (by simp; omega) ht'
    have hyl : [Value.string x.name, Value.int .i64 x.ino].length = 2 := rfl
    simp only [hyl] at hfin
    have e22 : off + (i + 1) * 2 = off + (i * 2 + 2) := by omega
    simp -dsimp [go_sem, g1', e1, g2', ic, hi, g3, e2, g4, ci, hov, g5, g10, hcp1, hcp2]
    have hfin2 : (putL (putL cu' (off + (i + 1) * 2) (xs.drop (i * 2))) (off + i * 2) [Value.string x.name, Value.int .i64 x.ino]).size = cu'.size := by
      rw [← Array.length_toList, toList_putL _ _ _ (by rw [hsN1]; simp; omega)]
      simp only [List.length_append, List.length_take, List.length_drop, Array.length_toList, hsN1, hyl]; omega
    have hll : (l.take i ++ x :: l.drop i).length = l.length + 1 := by simp; omega
    have hob : ownB (.slice (some ⟨gb, off, none⟩) l.length c) = some gb := by simp [ownB]; omega
    refine ⟨.inr ⟨xs.take (i * 2) ++ [Value.string x.name, Value.int .i64 x.ino] ++ xs.drop (i * 2), ?_, ?_⟩, ?_, fun b hb => .inl ?_⟩
    · rw [hll]
      refine ⟨by simp [rEntry]; omega, .inr ⟨gb, off, c, _, rfl, N2, by omega, hm', ?_, ?_⟩⟩
      · rw [hfin2]; simp only [rEntry]; omega
      · rw [e22, show (l.length + 1) * rEntry.n = l.length * 2 + 2 by simp only [rEntry]; omega]
        exact hfin
    · rw [List.append_assoc]
      exact Cs.append (by simpa [rEntry] using (z2.take i).flat flat_entry (Y := fun _ => True)) (Cs.cons (r := rEntry) (cs := [Value.string x.name, Value.int .i64 x.ino]) ⟨rfl, hxo⟩ (by simpa [rEntry] using (z2.drop i).flat flat_entry (Y := fun _ => True)))
    · refine Step.mono (Step.trans (O := fun k => k = gb) (Step.trans (O := fun k => k = gb) (keep_drew w).any s1 (fun _ _ q => q)) s2 (fun _ _ q => q)) (fun k _ q => by rw [q]; exact hob)
    · simp only [ownB] at hb ⊢
      split at hb
      · cases hb
      · rename_i q1; rw [if_neg q1]; exact hb
end Go.Proofs.YtdfjfagljngciaaGreat

set_option linter.all false
set_option maxRecDepth 100000
set_option maxHeartbeats 4000000
namespace Go.Proofs.YtdfjfagljngciaaGreat
open Go.RowKit Rx

def insE (l : List Entry) (s : ByteArray) (ino : Int) : List Entry := match l with
  | [] => [⟨s, ino⟩]
  | x :: l => if Op.bytesLess s.toList x.name.toList = true then ⟨s, ino⟩ :: x :: l else x :: insE l s ino
def hasE (l : List Entry) (s : ByteArray) : Bool := l.any (fun x => decide (x.name = s))
def putE (l : List Entry) (s : ByteArray) (ino : Int) : List Entry × Bool := if hasE l s = true then (l, false) else (insE l s ino, true)
theorem insE_idx (s : ByteArray) (ino : Int) : ∀ (l : List Entry), (idxP (fun x => Op.bytesLess s.toList x.name.toList) l = -1 → insE l s ino = l ++ [⟨s, ino⟩]) ∧ ∀ i : Nat, idxP (fun x => Op.bytesLess s.toList x.name.toList) l = i → insE l s ino = l.take i ++ ⟨s, ino⟩ :: l.drop i
  | [] => ⟨fun _ => rfl, fun i h => by simp [idxP] at h⟩
  | x :: l => by
    have ih := insE_idx s ino l
    unfold insE idxP
    by_cases h : Op.bytesLess s.toList x.name.toList = true
    · rw [if_pos h, if_pos h]
      refine ⟨fun q => by simp at q, fun i q => ?_⟩
      obtain rfl : i = 0 := by omega
      rfl
    · rw [if_neg h, if_neg h]
      rcases idxP_spec (fun x => Op.bytesLess s.toList x.name.toList) l with ⟨h1, -⟩ | ⟨j, y, h1, -⟩
      · rw [h1] at ih ⊢
        refine ⟨fun _ => by rw [ih.1 rfl]; rfl, fun i q => ?_⟩
        simp at q
      · rw [h1] at ih ⊢
        refine ⟨fun q => ?_, fun i q => ?_⟩
        · have : ¬ ((j : Int) < 0) := by omega
          simp only [this, if_false] at q; omega
        · have : ¬ ((j : Int) < 0) := by omega
          simp only [this, if_false] at q
          obtain rfl : i = j + 1 := by omega
          rw [ih.2 j rfl]; rfl
theorem hasE_place (l : List Entry) (s : ByteArray) : (hasE l s = true ∧ 0 ≤ placeN s l) ∨ (hasE l s = false ∧ placeN s l = -1) := by
  rcases placeN_spec s l with ⟨h1, h2⟩ | ⟨i, x, h1, h2, h3, -⟩
  · exact .inr ⟨by unfold hasE; rw [List.any_eq_false]; intro x hx; simpa using h2 x hx, h1⟩
  · exact .inl ⟨by unfold hasE; rw [List.any_eq_true]; exact ⟨x, List.mem_of_getElem? h2, by simpa using h3⟩, by omega⟩
theorem dirs_Put (X : Nat → Prop) (v : Value) (l : List Entry) (s : ByteArray) (ino : Int) (hio : I64 ino) (w : World) (h : Sl rEntry X w v l) (hl : l.length ≤ 2 ^ 40) :
    Calls Tryz.prog 106 #[v, .string s, .int .i64 ino] w fun e w' => ∃ v', e = .returned (.tuple #[v', .bool (putE l s ino).2]) ∧ Ow rEntry 110 (fun _ => True) w' v' (putE l s ino).1 ∧ Keep w w' ∧ ∀ g, ownB v' = some g → w.heap.size ≤ g := by
  obtain ⟨a, c, rfl, -⟩ := id h
  refine calls_rx h106 Tryz.func106 rfl Tryz.mixed (by kernel_rfl) Tryz.results106 ?_
  simp -dsimp [go_sem]
  have E0 := heap_alloc_new w (.cells #[.string s] 9)
  have k0 := keep_alloc w (.cells #[.string s] 9)
  refine (dirs_place X _ l s (w.alloc (.cells #[.string s] 9)) (h.keep k0) hl).mono ?_; rintro _ w1 ⟨rfl, k1⟩; refine ret_intro ?_
  have k01 := Keep.trans k0 k1
  replace E0 := Step.blk k1 E0 (fun q => q)
  unfold putE
  rcases hasE_place l s with ⟨q1, q2⟩ | ⟨q1, q2⟩
  · rw [if_pos q1]
    simp -dsimp [go_sem, q2]
    refine (clone_entries X _ l w1 (h.keep k01) hl).mono ?_; rintro _ w2 ⟨v1, rfl, o1, k2, b1⟩; refine ret_intro ?_
    obtain ⟨a1, c1, rfl, hc1, hc2⟩ := o1.slice
    simp -dsimp [go_sem]
    exact ⟨o1.all flat_entry, Keep.trans k01 k2, fun g hg => by have := b1 g hg; have := k01.size; omega⟩
  · rw [if_neg (by simp [q1]), q2]
    simp -dsimp [go_sem]
    refine (index_func 135 #[.pointer (some ⟨w.heap.size, 0, none⟩)] (fun x => Op.bytesLess s.toList x.name.toList) index_func_eg X _ l w1 (h.keep k01) hl (put_tells w.heap.size s w1 (blk_cell E0 0) (blk_lt E0))).mono ?_; rintro _ w2 ⟨rfl, k2⟩; refine ret_intro ?_
    have k02 := Keep.trans k01 k2
    replace E0 := Step.blk k2 E0 (fun q => q)
    have hins := insE_idx s ino l
    obtain ⟨i, hi, hil, hins2⟩ : ∃ i : Nat, (idxP (fun x => Op.bytesLess s.toList x.name.toList) l = -1 ∧ i = l.length ∨ idxP (fun x => Op.bytesLess s.toList x.name.toList) l = i) ∧ i ≤ l.length ∧ insE l s ino = l.take i ++ ⟨s, ino⟩ :: l.drop i := by
      rcases idxP_spec (fun x => Op.bytesLess s.toList x.name.toList) l with ⟨h1, -⟩ | ⟨j, y, h1, h2, -⟩
      · exact ⟨l.length, .inl ⟨h1, rfl⟩, Nat.le_refl _, by rw [hins.1 h1]; simp⟩
      · exact ⟨j, .inr h1, Nat.le_of_lt (List.getElem?_eq_some_iff.1 h2).1, hins.2 j h1⟩
    rw [hins2]
    rcases hi with ⟨hi, rfl⟩ | hi
    · rw [hi]
      have E0c := blk_cell E0; have E0f := blk_free E0; have E0l := blk_lt E0
      simp -dsimp [go_sem, E0c, E0f, E0l]
      have kA0 := keep_alloc w2 (.cells #[.string s, .int .i64 ino] 110)
      refine ⟨?_, Keep.agree (kA0.drew) (Agree.refl _), ?_⟩
      · refine (clone_entries X _ l w2.drew ((h.keep k02).keep (keep_drew w2)) hl).mono ?_; rintro _ w3 ⟨v1, rfl, o1, k3, b1⟩; refine ret_intro ?_
        have k23 := Keep.trans (keep_drew w2) k3
        have E3 := k23.blk E0 (fun q => q)
        obtain ⟨a1, c1, rfl, hc1, hc2⟩ := o1.slice
        clear E0c E0f E0l
        have E3c := blk_cell E3; have E3f := blk_free E3; have E3l := blk_lt E3
        simp -dsimp [go_sem, E3c, E3f, E3l]
        have kA := keep_alloc w3 (.cells #[.string s, .int .i64 ino] 110)
        have EA := heap_alloc_new w3 (.cells #[.string s, .int .i64 ino] 110)
        have oA := (o1.all (Y := fun _ => True) flat_entry).keep kA
        have hvb : ownB (.slice a1 l.length c1) ≠ some w3.heap.size := fun q => by have := o1.lt q; omega
        refine ⟨Keep.agree k23 (Agree.refl _), Keep.agree (Keep.trans k23 kA) (Agree.refl _), ?_⟩
        refine (insert_one w.heap.size _ l l.length ⟨s, ino⟩ w3.heap.size (w3.alloc (.cells #[.string s, .int .i64 ino] 110)) oA (fun g hg => by have := b1 g hg; have := k02.size; simp at *; omega) hl hil hio EA hvb).mono ?_; rintro _ w4 ⟨v4, rfl, o4, s4, b4⟩; refine ret_intro ?_
        have k34 : Keep w2 w4 := Step.keep (Keep.trans k23 kA) s4 (fun k q => by have := b1 k q; simpa using this)
        obtain ⟨a4, c4, rfl, hd1, hd2⟩ := o4.slice
        generalize List.length (_ ++ _) = L at o4 b4 ⊢
        simp -dsimp [go_sem]
        refine ⟨Keep.agree k34 (Agree.refl _), by first | exact o4 | simpa using o4, Keep.trans k02 k34, fun g hg => ?_⟩
        have := k02.size
        rcases b4 g hg with q | q
        · have := b1 g q; simp at this; omega
        · have := k34.size; have := s4.size; have := k23.size; try simp at q
          omega
      · refine (clone_entries X _ l (w2.alloc (.cells #[.string s, .int .i64 ino] 110)).drew ((h.keep k02).keep kA0.drew) hl).mono ?_; rintro _ w3 ⟨v1, rfl, o1, k3, b1⟩; refine ret_intro ?_
        have k23 := Keep.trans kA0.drew k3
        have E3 := k23.blk E0 (fun q => q)
        have EA := k3.blk (heap_alloc_new w2 (.cells #[.string s, .int .i64 ino] 110)) (fun q => q)
        obtain ⟨a1, c1, rfl, hc1, hc2⟩ := o1.slice
        clear E0c E0f E0l
        have E3c := blk_cell E3; have E3f := blk_free E3; have E3l := blk_lt E3
        simp -dsimp [go_sem, E3c, E3f, E3l]
        have oA := o1.all (Y := fun _ => True) flat_entry
        have hvb : ownB (.slice a1 l.length c1) ≠ some w2.heap.size := fun q => by have := b1 _ q; simp at this; omega
        refine ⟨Keep.agree k23 (Agree.refl _), ?_⟩
        refine (insert_one w.heap.size _ l l.length ⟨s, ino⟩ w2.heap.size w3 oA (fun g hg => by have := b1 g hg; have := k02.size; simp at *; omega) hl hil hio EA hvb).mono ?_; rintro _ w4 ⟨v4, rfl, o4, s4, b4⟩; refine ret_intro ?_
        have k34 : Keep w2 w4 := Step.keep k23 s4 (fun k q => by have := b1 k q; simp at this; omega)
        obtain ⟨a4, c4, rfl, hd1, hd2⟩ := o4.slice
        generalize List.length (_ ++ _) = L at o4 b4 ⊢
        simp -dsimp [go_sem]
        refine ⟨Keep.agree k34 (Agree.refl _), by first | exact o4 | simpa using o4, Keep.trans k02 k34, fun g hg => ?_⟩
        have := k02.size
        rcases b4 g hg with q | q
        · have := b1 g q; simp at this; omega
        · have := k34.size; have := s4.size; have := k23.size; try simp at q
          omega
    · rw [hi]
      have g1 : ¬ (i : Int) < 0 := by omega
      have E0c := blk_cell E0; have E0f := blk_free E0; have E0l := blk_lt E0
      simp -dsimp [go_sem, g1, E0c, E0f, E0l]
      have kA0 := keep_alloc w2 (.cells #[.string s, .int .i64 ino] 110)
      refine ⟨?_, Keep.agree (kA0.drew) (Agree.refl _), ?_⟩
      · refine (clone_entries X _ l w2.drew ((h.keep k02).keep (keep_drew w2)) hl).mono ?_; rintro _ w3 ⟨v1, rfl, o1, k3, b1⟩; refine ret_intro ?_
        have k23 := Keep.trans (keep_drew w2) k3
        have E3 := k23.blk E0 (fun q => q)
        obtain ⟨a1, c1, rfl, hc1, hc2⟩ := o1.slice
        clear E0c E0f E0l
        have E3c := blk_cell E3; have E3f := blk_free E3; have E3l := blk_lt E3
        simp -dsimp [go_sem, E3c, E3f, E3l]
        have kA := keep_alloc w3 (.cells #[.string s, .int .i64 ino] 110)
        have EA := heap_alloc_new w3 (.cells #[.string s, .int .i64 ino] 110)
        have oA := (o1.all (Y := fun _ => True) flat_entry).keep kA
        have hvb : ownB (.slice a1 l.length c1) ≠ some w3.heap.size := fun q => by have := o1.lt q; omega
        refine ⟨Keep.agree k23 (Agree.refl _), Keep.agree (Keep.trans k23 kA) (Agree.refl _), ?_⟩
        refine (insert_one w.heap.size _ l i ⟨s, ino⟩ w3.heap.size (w3.alloc (.cells #[.string s, .int .i64 ino] 110)) oA (fun g hg => by have := b1 g hg; have := k02.size; simp at *; omega) hl hil hio EA hvb).mono ?_; rintro _ w4 ⟨v4, rfl, o4, s4, b4⟩; refine ret_intro ?_
        have k34 : Keep w2 w4 := Step.keep (Keep.trans k23 kA) s4 (fun k q => by have := b1 k q; simpa using this)
        obtain ⟨a4, c4, rfl, hd1, hd2⟩ := o4.slice
        generalize List.length (_ ++ _) = L at o4 b4 ⊢
        simp -dsimp [go_sem]
        refine ⟨Keep.agree k34 (Agree.refl _), by first | exact o4 | simpa using o4, Keep.trans k02 k34, fun g hg => ?_⟩
        have := k02.size
        rcases b4 g hg with q | q
        · have := b1 g q; simp at this; omega
        · have := k34.size; have := s4.size; have := k23.size; try simp at q
          omega
      · refine (clone_entries X _ l (w2.alloc (.cells #[.string s, .int .i64 ino] 110)).drew ((h.keep k02).keep kA0.drew) hl).mono ?_; rintro _ w3 ⟨v1, rfl, o1, k3, b1⟩; refine ret_intro ?_
        have k23 := Keep.trans kA0.drew k3
        have E3 := k23.blk E0 (fun q => q)
        have EA := k3.blk (heap_alloc_new w2 (.cells #[.string s, .int .i64 ino] 110)) (fun q => q)
        obtain ⟨a1, c1, rfl, hc1, hc2⟩ := o1.slice
        clear E0c E0f E0l
        have E3c := blk_cell E3; have E3f := blk_free E3; have E3l := blk_lt E3
        simp -dsimp [go_sem, E3c, E3f, E3l]
        have oA := o1.all (Y := fun _ => True) flat_entry
        have hvb : ownB (.slice a1 l.length c1) ≠ some w2.heap.size := fun q => by have := b1 _ q; simp at this; omega
        refine ⟨Keep.agree k23 (Agree.refl _), ?_⟩
        refine (insert_one w.heap.size _ l i ⟨s, ino⟩ w2.heap.size w3 oA (fun g hg => by have := b1 g hg; have := k02.size; simp at *; omega) hl hil hio EA hvb).mono ?_; rintro _ w4 ⟨v4, rfl, o4, s4, b4⟩; refine ret_intro ?_
        have k34 : Keep w2 w4 := Step.keep k23 s4 (fun k q => by have := b1 k q; simp at this; omega)
        obtain ⟨a4, c4, rfl, hd1, hd2⟩ := o4.slice
        generalize List.length (_ ++ _) = L at o4 b4 ⊢
        simp -dsimp [go_sem]
        refine ⟨Keep.agree k34 (Agree.refl _), by first | exact o4 | simpa using o4, Keep.trans k02 k34, fun g hg => ?_⟩
        have := k02.size
        rcases b4 g hg with q | q
        · have := b1 g q; simp at this; omega
        · have := k34.size; have := s4.size; have := k23.size; try simp at q
          omega
end Go.Proofs.YtdfjfagljngciaaGreat
