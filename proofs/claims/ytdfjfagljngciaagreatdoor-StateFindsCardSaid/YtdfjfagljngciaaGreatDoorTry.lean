/- Whether effects, or deeds, are few. Package room: whether effects can be tried. -/
import Derived.Test.YtdfjfagljngciaaGreatDoorSta
import Derived.Test.YtdfjfagljngciaaGreatDoorStl
import Derived.Test.YtdfjfagljngciaaGreatDoorStq
set_option linter.all false
set_option maxRecDepth 100000
set_option maxHeartbeats 4000000
namespace Go.Proofs.YtdfjfagljngciaaGreatDoor
open Go.RowKit Rx

def Effect.few (x : Effect) : Prop := x.data.length ≤ 300 ∧ x.name.size ≤ 100 ∧ x.other.size ≤ 100
theorem few09 (v : Value) (l : List Effect) (w : World) (h : Sl rEffect (fun _ => False) w v l) :
    Calls Tryz.prog 31 #[v] w fun e w' => ∃ b, e = .returned (.bool b) ∧ (b = true → l.length ≤ 30 ∧ ∀ x ∈ l, x.data.length ≤ 300 ∧ x.name.size ≤ 100 ∧ x.other.size ≤ 100) ∧ Keep w w' := by
  obtain ⟨a, c, rfl, -⟩ := id h
  have hm := h.len
  unfold maxLen at hm
  refine calls_rx h31 Tryz.func31 rfl Tryz.mixed (by kernel_rfl) Tryz.results31 ?_
  simp -dsimp [go_sem]
  refine loop_intro (σ := Nat) (fun i => [.int .i64 i]) (fun i w' => i ≤ l.length ∧ Keep w w' ∧ ∀ k < i, ∀ x, l[k]? = some x → x.data.length ≤ 300 ∧ x.name.size ≤ 100 ∧ x.other.size ≤ 100) (fun i => l.length - i) 0 (by simp -dsimp [go_sem]; rfl) (by simp -dsimp [go_sem]) ⟨by simp, Keep.refl w, by simp⟩ ?_
  rintro i w1 ⟨hi, k1, hk⟩
  simp -dsimp [go_sem]
  refine condF_intro (fun g1 => ?_) (fun g1 => ?_)
  · simp at g1
    have hx : l[i]? = some l[i] := List.getElem?_eq_getElem _
    generalize l[i] = x at hx
    obtain ⟨b, off, c', d, e, hb, -, -, hd, c0, c1, c2, c3, c4, c5, c6, c7, c8⟩ := (h.keep k1).effect hx
    cases e
    obtain ⟨da, dc, rfl, -⟩ := id hd
    have i2 : (i : Int) < l.length := by omega
    by_cases q1 : 300 < x.data.length
    · have q1' : 300 < (x.data.length : Int) := by omega
      simp -dsimp [go_sem, i2, hb, c0, c1, c2, c3, c4, c5, c6, c7, c8, q1, q1']
      exact k1.alloc _
    by_cases q2 : 100 < x.name.size
    · have q1' : ¬ 300 < (x.data.length : Int) := by omega
      have q2' : 100 < (x.name.size : Int) := by omega
      simp -dsimp [go_sem, i2, hb, c0, c1, c2, c3, c4, c5, c6, c7, c8, q1, q1', q2, q2']
      exact k1.alloc _
    by_cases q3 : 100 < x.other.size
    · have q1' : ¬ 300 < (x.data.length : Int) := by omega
      have q2' : ¬ 100 < (x.name.size : Int) := by omega
      have q3' : 100 < (x.other.size : Int) := by omega
      simp -dsimp [go_sem, i2, hb, c0, c1, c2, c3, c4, c5, c6, c7, c8, q1, q1', q2, q2', q3, q3']
      exact k1.alloc _
    have q1' : ¬ 300 < (x.data.length : Int) := by omega
    have q2' : ¬ 100 < (x.name.size : Int) := by omega
    have q3' : ¬ 100 < (x.other.size : Int) := by omega
    simp -dsimp [go_sem, i2, hb, c0, c1, c2, c3, c4, c5, c6, c7, c8, q1, q1', q2, q2', q3, q3']
    try simp -dsimp (disch := omega) only [IntWalk.i64_in, IntWalk.u64_in, IntWalk.u8_in]
    refine back_intro (i + 1) (by simp -dsimp [go_sem]) (by simp -dsimp [go_sem]) ⟨by omega, k1.alloc _, fun k hk' => ?_⟩ (by omega)
    by_cases hki : k = i
    · subst hki; intro y hy; rw [hx] at hy; cases hy; omega
    · exact hk k (by omega)
  · simp at g1
    simp -dsimp [go_sem]
    refine ⟨fun q => ⟨by omega, fun x hx => ?_⟩, k1⟩
    obtain ⟨j, hj, rfl⟩ := List.mem_iff_getElem.1 hx
    exact hk j (by omega) _ (List.getElem?_eq_getElem _)
theorem one_effect : OneC rEffect := by
  rintro X w x cs ⟨d, rfl, hd, hok⟩ u hu
  obtain ⟨a, c, rfl, -⟩ := hd
  simp [Effect.enc] at hu
  rcases hu with rfl | rfl | rfl | rfl | rfl | rfl | rfl | rfl | rfl <;> rfl
/-- One effect more behind a row of one's own. -/
theorem app_effect {W : World} {v : Value} {l : List Effect} {x : Effect} {g : Nat} {cs : List Value} (hb : W.heap[g]? = some (.cells cs.toArray 25 (0, 0))) (hR : rEffect.R (fun k => ownB v = some k) W x cs) (hgv : ownB v ≠ some g) (o1 : Ow rEffect 25 (fun k => ownB v = some k) W v l) (hl : (l.length + 1) * 104 ≤ 140737488355328)
    {k : Value → World → Prop} {tk : Tag k} (hk : ∀ v' w', Ow rEffect 25 (fun k => ownB v' = some k) w' v' (l ++ [x]) → Step (fun g => ownB v = some g) W w' → (∀ g, ownB v' = some g → (ownB v = some g ∨ W.heap.size ≤ g) ∧ g < w'.heap.size) → k v' w') :
    appF Tryz.prog #[70, 70] 70 (Shut k tk) v (.slice (some ⟨g, 0, none⟩) 1 1) W := by
  have hgl := blk_lt hb
  have hM : ∀ j, j < W.heap.size → (ownB v = some j ∨ W.heap.size ≤ j) → ownB v = some j := fun j hj q => q.resolve_right (by omega)
  have o2 : Ow rEffect 25 (fun j => ownB v = some j ∨ W.heap.size ≤ j) W v l := o1.mono hM
  refine app_rows 104 Tryz.underlying70 (by kernel_rfl) one_effect o2 (Sl.of_blk (l := [x]) hb (fun q => q.elim hgv (fun q => by omega)) (Cs.one (rEffect.mono hR hM)) rfl (by unfold maxLen; omega)) (by rw [List.length_singleton]; unfold maxLen; omega) (by rw [List.length_singleton]; omega) (fun g hg => .inl hg) ?_
  intro v' w' h1 k2 b2
  exact hk v' w' (h1.mono (fun j hj q => b2 j q)) k2 (fun g hg => ⟨b2 g hg, h1.lt hg⟩)
theorem few16 (v : Value) (l : List Deed16) (w : World) (h : Sl rDeed16 (fun _ => False) w v l) (hl : (l.length + 1) * 104 ≤ 140737488355328) :
    Calls Tryz.prog 7 #[v] w fun e w' => ∃ b, e = .returned (.bool b) ∧ (b = true → l.length ≤ 30 ∧ ∀ x ∈ l, x.e.few) ∧ Keep w w' := by
  obtain ⟨a, c, rfl, -⟩ := id h
  have h : Sl rDeed16 (fun k => w.heap.size ≤ k) w (.slice a l.length c) l := h.mono (fun k hk q => by omega)
  refine calls_rx h7 Tryz.func7 rfl Tryz.mixed (by kernel_rfl) Tryz.results7 ?_
  simp -dsimp [go_sem]
  refine loop_intro (σ := Nat × Value) (fun t => [t.2, .int .i64 t.1]) (fun t w' => t.1 ≤ l.length ∧ Keep w w' ∧ Ow rEffect 25 (fun k => ownB t.2 = some k) w' t.2 ((l.take t.1).map (·.e)) ∧ ∀ g, ownB t.2 = some g → w.heap.size ≤ g) (fun t => l.length - t.1) (0, .slice none 0 0) (by simp -dsimp [go_sem]; rfl) (by simp -dsimp [go_sem]) ⟨by simp, Keep.refl w, by simpa using Ow.nil _ _ _ _, by simp [ownB]⟩ ?_
  rintro ⟨i, u⟩ w1 ⟨hi, k1, o1, b1⟩
  simp only at hi o1 b1
  obtain ⟨ua, uc, rfl, -⟩ := o1.slice
  have hml : ((l.take i).map (·.e)).length = i := by rw [List.length_map, List.length_take]; omega
  rw [hml] at o1 b1 ⊢
  simp -dsimp [go_sem]
  by_cases g1 : i < l.length
  rotate_left
  · obtain rfl : i = l.length := by omega
    rw [List.take_length] at o1
    by_cases g2 : l.length ≤ 30
    · have g2' : (l.length : Int) ≤ 30 := by omega
      simp -dsimp [go_sem, Nat.lt_irrefl, g2']
      refine (few09 _ (l.map (·.e)) w1 ((o1.mono (Y := fun _ => False) (fun _ _ q => q.elim)).sl (fun _ _ q => q))).mono ?_
      rintro _ w2 ⟨bb, rfl, hbb, k2⟩
      refine ret_intro ?_
      simp -dsimp [go_sem, g2']
      refine ⟨fun q => ⟨g2, fun x hx => (hbb q).2 _ (List.mem_map_of_mem hx)⟩, Keep.trans k1 k2⟩
    · have g2' : ¬ (l.length : Int) ≤ 30 := by omega
      simp -dsimp [go_sem, Nat.lt_irrefl, g2']
      exact k1
  have hx : l[i]? = some l[i] := List.getElem?_eq_getElem _
  generalize l[i] = x at hx
  obtain ⟨b, off, c', d, e, hb, -, hok, hd, c0, c1, c2, c3, c4, c5, c6, c7, c8, c9⟩ := (h.keep k1).deed16 hx
  cases e
  obtain ⟨da, dc, rfl, -⟩ := id hd
  have i2 : (i : Int) < l.length := by omega
  simp -dsimp [go_sem, g1, i2, hb, c0, c1, c2, c3, c4, c5, c6, c7, c8, c9]
  generalize hW : (w1.alloc _).alloc _ = w2
  obtain ⟨D2, E2, k2, z2⟩ := alloc2 hW
  clear hW
  have hR : rEffect.R (fun k => ownB (.slice ua i uc) = some k) w2 x.e (x.e.enc (.slice da x.e.data.length dc)) := ⟨_, rfl, (hd.keep k2).mono (fun k _ q => b1 k q), hok.1⟩
  refine app_effect (cs := x.e.enc (.slice da x.e.data.length dc)) E2 hR (fun q => by have := o1.lt q; omega) (o1.keep k2) (by rw [hml]; omega) ?_
  intro v' w3 o3 s3 b3
  have hml' : (l.take i).map (·.e) ++ [x.e] = (l.take (i + 1)).map (·.e) := by rw [List.take_add_one, hx]; simp
  rw [hml'] at o3
  simp -dsimp [go_sem]
  try simp -dsimp (disch := omega) only [IntWalk.i64_in, IntWalk.u64_in, IntWalk.u8_in]
  have l1 := k1.size
  exact back_intro (i + 1, v') (by simp -dsimp [go_sem]) (by simp -dsimp [go_sem]) ⟨by show i + 1 ≤ _; omega, Step.keep (Keep.trans k1 k2) s3 (fun j q => b1 j q), by simpa only [List.map_take] using o3, fun g hg => by rcases (b3 g hg).1 with q | q; exact b1 g q; omega⟩ (by show l.length - (i + 1) < l.length - i; omega)
end Go.Proofs.YtdfjfagljngciaaGreatDoor

set_option linter.all false
set_option maxRecDepth 100000
set_option maxHeartbeats 4000000
namespace Go.Proofs.YtdfjfagljngciaaGreatDoor
open Go.RowKit Rx Go.MapKept

theorem good_apply {k : Nat} {s : St} (h : Good k s) (hk : k ≤ 2 ^ 19) (e : Effect) (ref : Int) : Good (k + 2) (applyS s e ref).1 := by
  unfold applyS
  split
  · rename_i he
    cases hd : doesS s e ref with
    | none => exact h.mono (by omega)
    | some R => exact good_does h hk he hd
  · exact h.mono (by omega)
theorem applyS_err (s : St) (e : Effect) (ref : Int) : (applyS s e ref).2.2 = 0 ∨ (applyS s e ref).2.2 = 92 ∨ (applyS s e ref).2.2 = 93 := by
  unfold applyS
  split
  · cases doesS s e ref <;> simp
  · simp
end Go.Proofs.YtdfjfagljngciaaGreatDoor
