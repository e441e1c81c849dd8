/- Whether effects, or deeds, are few. Package room: whether effects can be tried. -/
import Derived.Test.YtdfjfagljngciaaGreatSta
import Derived.Test.YtdfjfagljngciaaGreatStl
import Derived.Test.YtdfjfagljngciaaGreatStq
set_option linter.all false
set_option maxRecDepth 100000
set_option maxHeartbeats 4000000
namespace Go.Proofs.YtdfjfagljngciaaGreat
open Go.RowKit Rx

def Effect.few (x : Effect) : Prop := x.data.length ≤ 300 ∧ x.name.size ≤ 100 ∧ x.other.size ≤ 100
theorem few09 (v : Value) (l : List Effect) (w : World) (h : Sl rEffect (fun _ => False) w v l) :
    Calls Tryz.prog 16 #[v] w fun e w' => ∃ b, e = .returned (.bool b) ∧ (b = true → l.length ≤ 30 ∧ ∀ x ∈ l, x.data.length ≤ 300 ∧ x.name.size ≤ 100 ∧ x.other.size ≤ 100) ∧ Keep w w' := by
  obtain ⟨a, c, rfl, -⟩ := id h
  have hm := h.len
  unfold maxLen at hm
  refine calls_rx h16 Tryz.func16 rfl Tryz.mixed (by kernel_rfl) Tryz.results16 ?_
  simp -dsimp [go_sem]
  refine loop_intro (σ := Nat) (fun i => [.int .i64 i]) (fun i w' => i ≤ l.length ∧ Keep w w' ∧ ∀ k < i, ∀ x, l[k]? = some x → x.data.length ≤ 300 ∧ x.name.size ≤ 100 ∧ x.other.size ≤ 100) (fun i => l.length - i) 0 (by simp -dsimp [go_sem]; rfl) (by simp -dsimp [go_sem]) ⟨by simp, Keep.refl w, by simp⟩ ?_
  rintro i w1 ⟨hi, k1, hk⟩
  simp -dsimp [go_sem]
  refine condF_intro (fun g1 => ?_) (fun g1 => ?_)
  · simp at g1
    have hx : l[i]? = some l[i] := List.getElem?_eq_getElem _
    generalize l[i] = x at hx
    obtain ⟨b, off, c', d, e, hb, -, -, hd, c0, c1, c2, c3, c4, c5, c6, c7, c8⟩ := (h.keep k1).effect hx
    cases e
    obtain ⟨da, dc, rfl, -⟩ := id hd
    have i2 : (i : Int) < l.length := by omega
    by_cases q1 : 300 < x.data.length
    · have q1' : 300 < (x.data.length : Int) := by omega
      simp -dsimp [go_sem, i2, hb, c0, c1, c2, c3, c4, c5, c6, c7, c8, q1, q1']
      exact k1.alloc _
    by_cases q2 : 100 < x.name.size
    · have q1' : ¬ 300 < (x.data.length : Int) := by omega
      have q2' : 100 < (x.name.size : Int) := by omega
      simp -dsimp [go_sem, i2, hb, c0, c1, c2, c3, c4, c5, c6, c7, c8, q1, q1', q2, q2']
      exact k1.alloc _
    by_cases q3 : 100 < x.other.size
    · have q1' : ¬ 300 < (x.data.length : Int) := by omega
      have q2' : ¬ 100 < (x.name.size : Int) := by omega
      have q3' : 100 < (x.other.size : Int) := by omega
      simp -dsimp [go_sem, i2, hb, c0, c1, c2, c3, c4, c5, c6, c7, c8, q1, q1', q2, q2', q3, q3']
      exact k1.alloc _
    have q1' : ¬ 300 < (x.data.length : Int) := by omega
    have q2' : ¬ 100 < (x.name.size : Int) := by omega
    have q3' : ¬ 100 < (x.other.size : Int) := by omega
    simp -dsimp [go_sem, i2, hb, c0, c1, c2, c3, c4, c5, c6, c7, c8, q1, q1', q2, q2', q3, q3']
    try simp -dsimp (disch := omega) only [IntWalk.i64_in, IntWalk.u64_in, IntWalk.u8_in]
    refine back_intro (i + 1) (by simp -dsimp [go_sem]) (by simp -dsimp [go_sem]) ⟨by omega, k1.alloc _, fun k hk' => ?_⟩ (by omega)
    by_cases hki : k = i
    · subst hki; intro y hy; rw [hx] at hy; cases hy; omega
    · exact hk k (by omega)
  · simp at g1
    simp -dsimp [go_sem]
    refine ⟨fun q => ⟨by omega, fun x hx => ?_⟩, k1⟩
    obtain ⟨j, hj, rfl⟩ := List.mem_iff_getElem.1 hx
    exact hk j (by omega) _ (List.getElem?_eq_getElem _)
theorem one_effect : OneC rEffect := by
  rintro X w x cs ⟨d, rfl, hd, hok⟩ u hu
  obtain ⟨a, c, rfl, -⟩ := hd
  simp [Effect.enc] at hu
  rcases hu with rfl | rfl | rfl | rfl | rfl | rfl | rfl | rfl | rfl <;> rfl
/-- One effect more behind a row of one's own. -/
theorem app_effect {W : World} {v : Value} {l : List Effect} {x : Effect} {g : Nat} {cs : List Value} (hb : W.heap[g]? = some (.cells cs.toArray 25 (0, 0))) (hR : rEffect.R (fun k => ownB v = some k) W x cs) (hgv : ownB v ≠ some g) (o1 : Ow rEffect 25 (fun k => ownB v = some k) W v l) (hl : (l.length + 1) * 104 ≤ 140737488355328)
    {k : Value → World → Prop} {tk : Tag k} (hk : ∀ v' w', Ow rEffect 25 (fun k => ownB v' = some k) w' v' (l ++ [x]) → Step (fun g => ownB v = some g) W w' → (∀ g, ownB v' = some g → (ownB v = some g ∨ W.heap.size ≤ g) ∧ g < w'.heap.size) → k v' w') :
    appF Tryz.prog #[51, 51] 51 (Shut k tk) v (.slice (some ⟨g, 0, none⟩) 1 1) W := by
  have hgl := blk_lt hb
  have hM : ∀ j, j < W.heap.size → (ownB v = some j ∨ W.heap.size ≤ j) → ownB v = some j := fun j hj q => q.resolve_right (by omega)
  have o2 : Ow rEffect 25 (fun j => ownB v = some j ∨ W.heap.size ≤ j) W v l := o1.mono hM
  refine app_rows 104 Tryz.underlying51 (by kernel_rfl) one_effect o2 (Sl.of_blk (l := [x]) hb (fun q => q.elim hgv (fun q => by omega)) (Cs.one (rEffect.mono hR hM)) rfl (by unfold maxLen; omega)) (by rw [List.length_singleton]; unfold maxLen; omega) (by rw [List.length_singleton]; omega) (fun g hg => .inl hg) ?_
  intro v' w' h1 k2 b2
  exact hk v' w' (h1.mono (fun j hj q => b2 j q)) k2 (fun g hg => ⟨b2 g hg, h1.lt hg⟩)
theorem few16 (v : Value) (l : List Deed16) (w : World) (h : Sl rDeed16 (fun _ => False) w v l) (hl : (l.length + 1) * 104 ≤ 140737488355328) :
    Calls Tryz.prog 9 #[v] w fun e w' => ∃ b, e = .returned (.bool b) ∧ (b = true → l.length ≤ 30 ∧ ∀ x ∈ l, x.e.few) ∧ Keep w w' := by
  obtain ⟨a, c, rfl, -⟩ := id h
  have h : Sl rDeed16 (fun k => w.heap.size ≤ k) w (.slice a l.length c) l := h.mono (fun k hk q => by omega)
  refine calls_rx h9 Tryz.func9 rfl Tryz.mixed (by kernel_rfl) Tryz.results9 ?_
  simp -dsimp [go_sem]
  refine loop_intro (σ := Nat × Value) (fun t => [t.2, .int .i64 t.1]) (fun t w' => t.1 ≤ l.length ∧ Keep w w' ∧ Ow rEffect 25 (fun k => ownB t.2 = some k) w' t.2 ((l.take t.1).map (·.e)) ∧ ∀ g, ownB t.2 = some g → w.heap.size ≤ g) (fun t => l.length - t.1) (0, .slice none 0 0) (by simp -dsimp [go_sem]; rfl) (by simp -dsimp [go_sem]) ⟨by simp, Keep.refl w, by simpa using Ow.nil _ _ _ _, by simp [ownB]⟩ ?_
  rintro ⟨i, u⟩ w1 ⟨hi, k1, o1, b1⟩
  simp only at hi o1 b1
  obtain ⟨ua, uc, rfl, -⟩ := o1.slice
  have hml : ((l.take i).map (·.e)).length = i := by rw [List.length_map, List.length_take]; omega
  rw [hml] at o1 b1 ⊢
  simp -dsimp [go_sem]
  by_cases g1 : i < l.length
  rotate_left
  · obtain rfl : i = l.length := by omega
    rw [List.take_length] at o1
    by_cases g2 : l.length ≤ 30
    · have g2' : (l.length : Int) ≤ 30 := by omega
      simp -dsimp [go_sem, Nat.lt_irrefl, g2']
      refine (few09 _ (l.map (·.e)) w1 ((o1.mono (Y := fun _ => False) (fun _ _ q => q.elim)).sl (fun _ _ q => q))).mono ?_
      rintro _ w2 ⟨bb, rfl, hbb, k2⟩
      refine ret_intro ?_
      simp -dsimp [go_sem, g2']
      refine ⟨fun q => ⟨g2, fun x hx => (hbb q).2 _ (List.mem_map_of_mem hx)⟩, Keep.trans k1 k2⟩
    · have g2' : ¬ (l.length : Int) ≤ 30 := by omega
      simp -dsimp [go_sem, Nat.lt_irrefl, g2']
      exact k1
  have hx : l[i]? = some l[i] := List.getElem?_eq_getElem _
  generalize l[i] = x at hx
  obtain ⟨b, off, c', d, e, hb, -, hok, hd, c0, c1, c2, c3, c4, c5, c6, c7, c8, c9⟩ := (h.keep k1).deed16 hx
  cases e
  obtain ⟨da, dc, rfl, -⟩ := id hd
  have i2 : (i : Int) < l.length := by omega
  simp -dsimp [go_sem, g1, i2, hb, c0, c1, c2, c3, c4, c5, c6, c7, c8, c9]
  generalize hW : (w1.alloc _).alloc _ = w2
  obtain ⟨D2, E2, k2, z2⟩ := alloc2 hW
  clear hW
  have hR : rEffect.R (fun k => ownB (.slice ua i uc) = some k) w2 x.e (x.e.enc (.slice da x.e.data.length dc)) := ⟨_, rfl, (hd.keep k2).mono (fun k _ q => b1 k q), hok.1⟩
  refine app_effect (cs := x.e.enc (.slice da x.e.data.length dc)) E2 hR (fun q => by have := o1.lt q; omega) (o1.keep k2) (by rw [hml]; omega) ?_
  intro v' w3 o3 s3 b3
  have hml' : (l.take i).map (·.e) ++ [x.e] = (l.take (i + 1)).map (·.e) := by rw [List.take_add_one, hx]; simp
  rw [hml'] at o3
  simp -dsimp [go_sem]
  try simp -dsimp (disch := omega) only [IntWalk.i64_in, IntWalk.u64_in, IntWalk.u8_in]
  have l1 := k1.size
  exact back_intro (i + 1, v') (by simp -dsimp [go_sem]) (by simp -dsimp [go_sem]) ⟨by show i + 1 ≤ _; omega, Step.keep (Keep.trans k1 k2) s3 (fun j q => b1 j q), by simpa only [List.map_take] using o3, fun g hg => by rcases (b3 g hg).1 with q | q; exact b1 g q; omega⟩ (by show l.length - (i + 1) < l.length - i; omega)
end Go.Proofs.YtdfjfagljngciaaGreat

set_option linter.all false
set_option maxRecDepth 100000
set_option maxHeartbeats 4000000
namespace Go.Proofs.YtdfjfagljngciaaGreat
open Go.RowKit Rx Go.MapKept

theorem good_apply {k : Nat} {s : St} (h : Good k s) (hk : k ≤ 2 ^ 19) (e : Effect) (ref : Int) : Good (k + 2) (applyS s e ref).1 := by
  unfold applyS
  split
  · rename_i he
    cases hd : doesS s e ref with
    | none => exact h.mono (by omega)
    | some R => exact good_does h hk he hd
  · exact h.mono (by omega)
theorem applyS_err (s : St) (e : Effect) (ref : Int) : (applyS s e ref).2.2 = 0 ∨ (applyS s e ref).2.2 = 92 ∨ (applyS s e ref).2.2 = 93 := by
  unfold applyS
  split
  · cases doesS s e ref <;> simp
  · simp
/-- The number that a trial ends with; n: the last reference. -/
def tryS (g : Geom) : St → List Effect → Int → Bool → Int
  | _, [], _, full => if full = true then 28 else 0
  | s, e :: l, n, full => if (applyS s e (if e.kind = 7 then n + 1 else 0)).2.2 = 0 then tryS g (applyS s e (if e.kind = 7 then n + 1 else 0)).1 l (if e.kind = 7 then n + 1 else n) (full || !fitsS g (applyS s e (if e.kind = 7 then n + 1 else 0)).1) else 93
theorem room_fresh (b : Nat) (n : Int) (w : World) (hb : w.heap[b]? = some (.cells #[.int .i64 n] 3 (0, 0))) (hn : I64 (n + 1)) :
    Calls Tryz.prog 43 #[.pointer (some ⟨b, 0, none⟩)] w fun r w' => r = .returned (.int .i64 (n + 1)) ∧ w'.heap[b]? = some (.cells #[.int .i64 (n + 1)] 3 (0, 0)) ∧ Step (fun k => k = b) w w' := by
  have e1 : IntKind.i64.wrap (n + 1) = n + 1 := IntWalk.i64_in _ hn
  refine calls_rx h43 Tryz.func43 rfl Tryz.mixed (by kernel_rfl) Tryz.results43 ?_
  have hbc := blk_cell hb; have hbf := blk_free hb; have hbl := blk_lt hb
  simp -dsimp [go_sem, hbc, hbf, hbl, e1]
  exact ⟨(Array.getElem?_eq_some_iff.1 (blk_set hb 0 (.int .i64 (n + 1)))).2, (Step.refl (fun k => k = b) w).set (.inl rfl) _⟩
theorem room_Try (X : Nat → Prop) (b m : Nat) (s : St) (k : Nat) (hg : Good k s) (g : Geom) (hs : g.small) (v : Value) (l : List Effect) (hk : k + 2 * l.length ≤ 2 ^ 19) (w : World) (hl : Sl rEffect (fun _ => False) w v l) (h : StAt w X b m s) :
    Calls Tryz.prog 21 #[.agg g.enc.toArray, .pointer (some ⟨b, 0, none⟩), v] w fun r w' => r = .returned (.int .i64 (tryS g s l 1099511627776 false)) ∧ Keep w w' := by
  obtain ⟨a, c, rfl, -⟩ := id hl
  have hl' : Sl rEffect (fun k => w.heap.size ≤ k) w (.slice a l.length c) l := hl.mono (fun k hk q => by omega)
  refine calls_rx h21 Tryz.func21 rfl Tryz.mixed (by kernel_rfl) Tryz.results21 ?_
  unfold Geom.enc
  simp -dsimp [go_sem]
  generalize hW : (w.alloc _).alloc _ = W
  obtain ⟨G0, E0, k0, z0⟩ := alloc2 hW
  clear hW
  refine (state_Copy (fun k => X k ∨ k = w.heap.size + 1) b m s W (h.wide (Y := fun k => k = w.heap.size + 1) k0 (fun k q => by omega))).mono ?_; rintro _ w1 ⟨b', m', rfl, h1, k1, hb1, hm1, hbm1, hbl1, hml1⟩; refine ret_intro ?_
  have k01 := Keep.trans k0 k1
  simp -dsimp [go_sem]
  have E1 := k1.blk E0 (fun q => q)
  have G1 := k1.blk G0 (fun q => q)
  refine loop_intro (σ := Nat × Bool) (fun t => [.bool t.2, .int .i64 t.1]) (fun t w' => t.1 ≤ l.length ∧ Step (fun k => k = b' ∨ k = m' ∨ k = w.heap.size + 1) w1 w' ∧ ∃ si ni, StAt w' (fun k => (X k ∨ k = w.heap.size + 1) ∨ k = b' ∨ k = m') b' m' si ∧
    w'.heap[w.heap.size + 1]? = some (.cells #[.int .i64 ni] 3 (0, 0)) ∧ 0 ≤ ni ∧ ni ≤ 1099511627776 + (t.1 : Int) ∧ Good (k + 2 * t.1) si ∧ tryS g s l 1099511627776 false = tryS g si (l.drop t.1) ni t.2) (fun t => l.length - t.1) (0, false) (by simp -dsimp [go_sem]; rfl) (by simp -dsimp [go_sem])
    ⟨Nat.zero_le _, Step.refl _ _, s, 1099511627776, h1, E1, by omega, by omega, by simpa using hg, rfl⟩ ?_
  rintro ⟨i, full⟩ w2 ⟨hi, s2, si, ni, h2, n2, hn0, hn1, hgi, ht⟩
  simp only at hi hn1 hgi ht
  rw [ht]
  simp -dsimp [go_sem]
  by_cases g1 : i < l.length
  rotate_left
  · obtain rfl : i = l.length := by omega
    rw [List.drop_length]
    have kw : Keep w w2 := Step.keep k01 s2 (fun j q => by omega)
    cases full
    · simp -dsimp [go_sem, Nat.lt_irrefl]
      exact ⟨rfl, kw⟩
    · simp -dsimp [go_sem, Nat.lt_irrefl]
      exact ⟨rfl, kw⟩
  have hx : l[i]? = some l[i] := List.getElem?_eq_getElem _
  generalize l[i] = x at hx
  have hdr : l.drop i = x :: l.drop (i + 1) := by
    rw [List.drop_eq_getElem_cons g1]
    congr 1
    exact (List.getElem?_eq_some_iff.1 hx).2
  rw [hdr]
  have k02 : Keep w w2 := Step.keep k01 s2 (fun j q => by omega)
  obtain ⟨q, off, c', d, e, hq, -, hok, hd, c0, c1, c2, c3, c4, c5, c6, c7, c8⟩ := (hl.keep k02).effect hx
  cases e
  obtain ⟨da, dc, rfl, -⟩ := id hd
  have i2 : (i : Int) < l.length := by omega
  simp -dsimp [go_sem, g1, i2, hq, c0, c1, c2, c3, c4, c5, c6, c7, c8]
  generalize hW : w2.alloc _ = w3
  obtain ⟨X3, k3, z3⟩ := alloc1 hW
  clear hW
  have l01 := k01.size
  have l2 := s2.size
  have hll : (i : Int) ≤ 2 ^ 20 := by omega
  refine join_intro (σ := Unit) (fun _ => [.int .i64 (if x.kind = 7 then ni + 1 else 0)]) (fun _ w' => Step (fun k => k = w.heap.size + 1) w3 w' ∧ w'.heap[w.heap.size + 1]? = some (.cells #[.int .i64 (if x.kind = 7 then ni + 1 else ni)] 3 (0, 0))) (by simp -dsimp [go_sem]; rfl) ?_ ?_
  · have n3 := k3.blk n2 (fun q => q)
    have X3c := blk_cell X3; have X3f := blk_free X3; have X3l := blk_lt X3
    by_cases gk : x.kind = 7
    · have dk : decide (x.kind = 7) = true := decide_eq_true gk
      simp -dsimp [go_sem, X3c, X3f, X3l, dk]
      refine (room_fresh (w.heap.size + 1) ni w3 n3 (by unfold I64; omega)).mono ?_; rintro _ w4 ⟨rfl, n4, s4⟩; refine ret_intro ?_
      simp -dsimp [go_sem]
      refine meet_intro () (by simp -dsimp [go_sem, gk]) (by simp -dsimp [go_sem]) ⟨s4, by rw [if_pos gk]; exact n4⟩
    · simp -dsimp [go_sem, X3c, X3f, X3l, gk]
      refine meet_intro () (by simp -dsimp [go_sem, gk]) (by simp -dsimp [go_sem]) ⟨Step.refl _ _, by first | exact n3 | (rw [if_neg gk]; exact n3)⟩
  rintro _ w4 ⟨s4, n4⟩
  have hex : tryS g si (x :: l.drop (i + 1)) ni full = if (applyS si x (if x.kind = 7 then ni + 1 else 0)).2.2 = 0 then tryS g (applyS si x (if x.kind = 7 then ni + 1 else 0)).1 (l.drop (i + 1)) (if x.kind = 7 then ni + 1 else ni) (full || !fitsS g (applyS si x (if x.kind = 7 then ni + 1 else 0)).1) else 93 := by rw [tryS]
  rw [hex]
  clear hex
  have hrf : I64 (if x.kind = 7 then ni + 1 else 0) := by unfold I64; split <;> omega
  have hni : 0 ≤ (if x.kind = 7 then ni + 1 else ni) ∧ (if x.kind = 7 then ni + 1 else ni) ≤ 1099511627776 + ((i + 1 : Nat) : Int) := by split <;> omega
  generalize (if x.kind = 7 then ni + 1 else 0) = rf at hrf ⊢
  generalize (if x.kind = 7 then ni + 1 else ni) = nj at hni n4 ⊢
  have X4 := s4.blk X3 (by omega)
  have h4 := (h2.keep k3).step s4 (fun j q => .inl (.inr q)) (fun q => by omega) (fun q => by omega)
  have hfi := hgi.fine (by omega)
  have X4c := blk_cell X4; have X4f := blk_free X4; have X4l := blk_lt X4
  simp -dsimp [go_sem, X4c, X4f, X4l]
  refine (state_Apply _ b' m' si hfi (hgi.names (by omega)) x hok rf hrf da dc w4 h4).mono ?_
  rintro _ w5 ⟨gv, rfl, -, h5, s5, -⟩
  refine ret_intro ?_
  have hgj := good_apply hgi (by omega) x rf
  have s15 : Step (fun k => k = b' ∨ k = m' ∨ k = w.heap.size + 1) w1 w5 := ((s2.then k3).trans s4 (fun j _ q => .inr (.inr q))).trans s5 (fun j _ q => q.elim .inl (fun q => .inr (.inl q)))
  have k05 : Keep w w5 := Step.keep k01 s15 (fun j q => by omega)
  have n5 := s5.blk n4 (by omega)
  rcases applyS_err si x rf with he | he | he
  rotate_left
  · rw [he]
    simp -dsimp [go_sem]
    exact k05
  · rw [he]
    simp -dsimp [go_sem]
    exact k05
  rw [he, if_pos rfl]
  have hgk : k + 2 * i + 2 = k + 2 * (i + 1) := by omega
  rw [hgk] at hgj
  generalize (applyS si x rf).1 = sj at h5 hgj ⊢
  clear X4c X4f X4l
  have G5 := s15.blk G1 (by omega)
  cases full
  · have G5c := blk_cell G5; have G5f := blk_free G5; have G5l := blk_lt G5
    simp -dsimp [go_sem, G5c, G5f, G5l]
    refine (room_Fits _ b' m' sj (k + 2 * (i + 1)) hgj (by omega) g hs w5 h5).mono ?_; rintro _ w6 ⟨rfl, k6⟩; refine ret_intro ?_
    simp -dsimp [go_sem]
    try simp -dsimp (disch := omega) only [IntWalk.i64_in, IntWalk.u64_in, IntWalk.u8_in]
    exact back_intro (i + 1, !fitsS g sj) (by simp -dsimp [go_sem]) (by simp -dsimp [go_sem]) ⟨by show i + 1 ≤ _; omega, s15.then k6, sj, h5.keep k6, nj, k6.blk n5 (fun q => q), hni.1, hni.2, hgj, by simp⟩ (by show l.length - (i + 1) < l.length - i; omega)
  · simp -dsimp [go_sem]
    try simp -dsimp (disch := omega) only [IntWalk.i64_in, IntWalk.u64_in, IntWalk.u8_in]
    exact back_intro (i + 1, true) (by simp -dsimp [go_sem]) (by simp -dsimp [go_sem]) ⟨by show i + 1 ≤ _; omega, s15, sj, h5, nj, n5, hni.1, hni.2, hgj, by simp⟩ (by show l.length - (i + 1) < l.length - i; omega)
end Go.Proofs.YtdfjfagljngciaaGreat
