/- Any item, and any effect, as a line. -/
import Derived.Test.YtdfjfagljngciaaDoorRepe
set_option linter.all false
namespace Go.Proofs.YtdfjfagljngciaaDoor
open Go.RowKit Rx

def kindL (k : Int) : List UInt8 := if k = 2 then [100] else if k = 1 then [45] else [63]
def itemL (x : Item) : List UInt8 := kindL x.kind ++ [32] ++ dec x.ino ++ [32] ++ dec x.size ++ [32] ++ x.path.data.toList
def okItem (x : Item) : Prop := I64 x.ino ∧ I64 x.size ∧ x.path.size ≤ 200
theorem itemL_len (x : Item) (h : okItem x) : (itemL x).length ≤ 300 := by
  obtain ⟨h1, h2, h3⟩ := h
  have := dec_len x.ino h1
  have := dec_len x.size h2
  have hk : (kindL x.kind).length = 1 := by unfold kindL; repeat' split
                                            all_goals rfl
  have hp : x.path.data.toList.length = x.path.size := by
    obtain ⟨p, hp⟩ := of_txt x.path
    rw [hp, txt_data, txt_size]
  unfold itemL
  simp [hk]; omega
def itemsL (l : List Item) : List UInt8 := l.flatMap fun x => itemL x ++ [10]
theorem itemsL_len (l : List Item) (h : ∀ x ∈ l, okItem x) : (itemsL l).length ≤ 301 * l.length := by
  induction l with
  | nil => simp [itemsL]
  | cons x r ih =>
    have := itemL_len x (h x (List.mem_cons_self ..))
    have := ih (fun y hy => h y (List.mem_cons_of_mem _ hy))
    simp only [itemsL, List.flatMap_cons, List.length_append, List.length_cons, List.length_nil] at this ⊢
    omega
theorem builder_T : BldT 60 := ⟨by kernel_rfl, by decide⟩
set_option maxHeartbeats 1000000 in
theorem report_Items (v : Value) (l : List Item) (w : World) (hT : Tab w) (h : Sl rItem (fun _ => False) w v l) (hl : l.length ≤ 30) (hok : ∀ x ∈ l, okItem x) :
    Calls Tryd.prog 14 #[v] w fun e w' => e = .returned (.string (txt (itemsL l))) ∧ Keep w w' := by
  obtain ⟨a, c, rfl, -⟩ := id h
  refine calls_rx h14 Tryd.func14 rfl Tryd.mixed (by kernel_rfl) Tryd.results14 ?_
  simp -dsimp [go_sem]
  have h1 : Bld (w.alloc (Obj.cells #[.pointer none, .slice none 0 0] 60)) 60 w.heap.size w.heap.size [] := ⟨_, .inl rfl, Nat.le_refl _, _, heap_alloc_new w _, World.ownsRow_nil _ _ _ _, by simp [Value.ownBlock]⟩
  refine loop_intro (σ := Nat) (fun i => [.int .i64 i]) (fun i w' => i ≤ l.length ∧ Keep w w' ∧ Bld w' 60 w.heap.size w.heap.size (itemsL (l.take i))) (fun i => l.length - i) 0 (by simp -dsimp [go_sem]; rfl) (by simp -dsimp [go_sem]) ⟨by simp, keep_alloc w _, by simpa [itemsL] using h1⟩ ?_
  rintro i w1 ⟨hi, k1, b1⟩
  simp -dsimp [go_sem]
  refine condF_intro (fun g1 => ?_) (fun g1 => ?_)
  · simp at g1
    have hx : l[i]? = some l[i] := List.getElem?_eq_getElem _
    generalize l[i] = x at hx
    have hxm := List.mem_of_getElem? hx
    obtain ⟨ok1, ok2, ok3⟩ := hok x hxm
    have hlen := itemsL_len (l.take i) (fun y hy => hok y (List.mem_of_mem_take hy))
    have hli : (l.take i).length ≤ 30 := by rw [List.length_take]; omega
    have hil := itemL_len x (hok x hxm)
    obtain ⟨b, off, c', d, e, hb, -, -, hd, c0, c1, c2, c3, c4⟩ := (h.keep k1).item hx
    cases e
    obtain ⟨da, dc, rfl, -⟩ := id hd
    have i2 : (i : Int) < l.length := by omega
    simp -dsimp [go_sem, i2, hb, c0, c1, c2, c3, c4]
    refine (report_Item x.path x.ino x.kind x.size _ ok1 ok2 ok3 _ (hT.keep (k1.alloc _))).mono ?_; rintro e w2 ⟨rfl, k2⟩; refine ret_intro ?_
    have b2 := b1.keep (Keep.trans (keep_alloc _ _) k2)
    have K2 := Keep.trans (k1.alloc _) k2
    change Keep _ _ at K2
    rw [show (if x.kind = 2 then ([100] : List UInt8) else if x.kind = 1 then [45] else [63]) ++ [32] ++ dec x.ino ++ [32] ++ dec x.size ++ [32] ++ x.path.data.toList = itemL x from rfl]
    generalize ht : itemL x = t at hil ⊢
    simp -dsimp [go_sem]
    refine (builder_WriteString _ _ _ builder_T _ (txt t) _ b2 (by rw [txt_size]; omega) K2.size).mono ?_; rintro e w3 ⟨rfl, b3, k3⟩; refine ret_intro ?_
    rw [txt_data] at b3
    have K3 := OB.from K2 k3 (Nat.le_refl _)
    simp -dsimp [go_sem]
    refine (builder_WriteString _ _ _ builder_T _ (txt [10]) _ b3 (by rw [txt_size]; simp; omega) K3.size).mono ?_; rintro e w4 ⟨rfl, b4, k4⟩; refine ret_intro ?_
    rw [txt_data] at b4
    have K4 := OB.from K3 k4 (Nat.le_refl _)
    have hnx : itemsL (l.take (i + 1)) = itemsL (l.take i) ++ t ++ [10] := by
      unfold itemsL
      rw [List.take_add_one, hx, List.flatMap_append, ← ht]; simp
    rw [← hnx] at b4
    simp -dsimp [go_sem]
    try simp -dsimp (disch := omega) only [IntWalk.i64_in, IntWalk.u64_in, IntWalk.u8_in]
    exact back_intro (i + 1) (by simp -dsimp [go_sem]) (by simp -dsimp [go_sem]) ⟨by omega, K4, b4⟩ (by omega)
  · simp at g1
    obtain rfl : i = l.length := by omega
    rw [List.take_length] at b1
    simp -dsimp [go_sem]
    refine (builder_String _ _ _ builder_T _ _ b1 k1.size).mono ?_; rintro e w2 ⟨rfl, k2⟩; refine ret_intro ?_
    simp -dsimp [go_sem]
    exact OB.from k1 k2 (Nat.le_refl _)
theorem few09 (v : Value) (l : List Effect) (w : World) (h : Sl rEffect (fun _ => False) w v l) :
    Calls Tryd.prog 7 #[v] w fun e w' => ∃ b, e = .returned (.bool b) ∧ (b = true → l.length ≤ 30 ∧ ∀ x ∈ l, x.data.length ≤ 300 ∧ x.name.size ≤ 100 ∧ x.other.size ≤ 100) ∧ Keep w w' := by
  obtain ⟨a, c, rfl, -⟩ := id h
  have hm := h.len
  unfold maxLen at hm
  refine calls_rx h7 Tryd.func7 rfl Tryd.mixed (by kernel_rfl) Tryd.results7 ?_
  simp -dsimp [go_sem]
  refine loop_intro (σ := Nat) (fun i => [.int .i64 i]) (fun i w' => i ≤ l.length ∧ Keep w w' ∧ ∀ k < i, ∀ x, l[k]? = some x → x.data.length ≤ 300 ∧ x.name.size ≤ 100 ∧ x.other.size ≤ 100) (fun i => l.length - i) 0 (by simp -dsimp [go_sem]; rfl) (by simp -dsimp [go_sem]) ⟨by simp, Keep.refl w, by simp⟩ ?_
  rintro i w1 ⟨hi, k1, hk⟩
  simp -dsimp [go_sem]
  refine condF_intro (fun g1 => ?_) (fun g1 => ?_)
  · simp at g1
    have hx : l[i]? = some l[i] := List.getElem?_eq_getElem _
    generalize l[i] = x at hx
    obtain ⟨b, off, c', d, e, hb, -, -, hd, c0, c1, c2, c3, c4, c5, c6, c7, c8⟩ := (h.keep k1).effect hx
    cases e
    obtain ⟨da, dc, rfl, -⟩ := id hd
    have i2 : (i : Int) < l.length := by omega
    by_cases q1 : 300 < x.data.length
    · have q1' : 300 < (x.data.length : Int) := by omega
      simp -dsimp [go_sem, i2, hb, c0, c1, c2, c3, c4, c5, c6, c7, c8, q1, q1']
      exact k1.alloc _
    by_cases q2 : 100 < x.name.size
    · have q1' : ¬ 300 < (x.data.length : Int) := by omega
      have q2' : 100 < (x.name.size : Int) := by omega
      simp -dsimp [go_sem, i2, hb, c0, c1, c2, c3, c4, c5, c6, c7, c8, q1, q1', q2, q2']
      exact k1.alloc _
    by_cases q3 : 100 < x.other.size
    · have q1' : ¬ 300 < (x.data.length : Int) := by omega
      have q2' : ¬ 100 < (x.name.size : Int) := by omega
      have q3' : 100 < (x.other.size : Int) := by omega
      simp -dsimp [go_sem, i2, hb, c0, c1, c2, c3, c4, c5, c6, c7, c8, q1, q1', q2, q2', q3, q3']
      exact k1.alloc _
    have q1' : ¬ 300 < (x.data.length : Int) := by omega
    have q2' : ¬ 100 < (x.name.size : Int) := by omega
    have q3' : ¬ 100 < (x.other.size : Int) := by omega
    simp -dsimp [go_sem, i2, hb, c0, c1, c2, c3, c4, c5, c6, c7, c8, q1, q1', q2, q2', q3, q3']
    try simp -dsimp (disch := omega) only [IntWalk.i64_in, IntWalk.u64_in, IntWalk.u8_in]
    refine back_intro (i + 1) (by simp -dsimp [go_sem]) (by simp -dsimp [go_sem]) ⟨by omega, k1.alloc _, fun k hk' => ?_⟩ (by omega)
    by_cases hki : k = i
    · subst hki; intro y hy; rw [hx] at hy; cases hy; omega
    · exact hk k (by omega)
  · simp at g1
    simp -dsimp [go_sem]
    refine ⟨fun q => ⟨by omega, fun x hx => ?_⟩, k1⟩
    obtain ⟨j, hj, rfl⟩ := List.mem_iff_getElem.1 hx
    exact hk j (by omega) _ (List.getElem?_eq_getElem _)
theorem awake43 (w : World) (hT : Tab w) : Calls Tryd.prog 5 #[] w fun e w' => e = .returned (.bool true) ∧ Keep w w' := by
  have e1 : dec 1 = [49] := by rw [dec_eq]; simp [Lib.decDigits]
  have e0 : dec 0 = [48] := by rw [dec_eq]; simp [Lib.decDigits]
  refine calls_rx h5 Tryd.func5 rfl Tryd.mixed (by kernel_rfl) Tryd.results5 ?_
  simp -dsimp [go_sem]
  refine (report_Item (txt [47]) 1 2 0 (.slice none 0 0) ⟨by omega, by omega⟩ ⟨by omega, by omega⟩ (by rw [txt_size]; simp) w hT).mono ?_; rintro e w1 ⟨rfl, k1⟩; refine ret_intro ?_
  rw [e1, e0, txt_data]
  simp -dsimp [go_sem]
  exact k1
/-- A slice of one record, just made. -/
theorem Sl.one {α : Type} {r : Rep α} {X : Nat → Prop} {w : World} {b : Nat} {x : α} {cs : List Value} {t : TypeId} (hb : w.heap[b]? = some (.cells cs.toArray t (0, 0))) (hX : ¬ X b) (hR : r.R X w x cs) : Sl r X w (.slice (some ⟨b, 0, none⟩) 1 1) [x] := by
  refine ⟨_, _, rfl, by simp, by unfold maxLen; omega, fun _ => ⟨b, 0, rfl, blk_lt hb, hX, fun i y hy => ?_⟩⟩
  have hi : i = 0 := by have := (List.getElem?_eq_some_iff.1 hy).1; simp at this; exact this
  subst hi
  simp only [List.getElem?_cons_zero, Option.some.injEq] at hy
  subst hy
  exact ⟨cs, hR, fun j u hu => by rw [blk_cell hb]; simpa using hu⟩
theorem Sl.ints {X : Nat → Prop} {w : World} {b : Nat} {l : List Int} {t : TypeId} (hb : w.heap[b]? = some (.cells (l.map (Value.int .i64)).toArray t (0, 0))) (hX : ¬ X b) (hl : l.length ≤ 1000) (h64 : ∀ x ∈ l, I64 x) : Sl rInt X w (.slice (some ⟨b, 0, none⟩) l.length l.length) l := by
  refine ⟨_, _, rfl, Nat.le_refl _, by unfold maxLen; omega, fun _ => ⟨b, 0, rfl, blk_lt hb, hX, fun i y hy => ?_⟩⟩
  refine ⟨[.int .i64 y], ⟨rfl, h64 y (List.mem_of_getElem? hy)⟩, fun j u hu => ?_⟩
  rw [blk_cell hb]
  have hj : j = 0 := by have := (List.getElem?_eq_some_iff.1 hu).1; simp at this; exact this
  subst hj
  simp only [List.getElem?_cons_zero, Option.some.injEq] at hu
  subst hu
  simp [rInt, hy]
end Go.Proofs.YtdfjfagljngciaaDoor
