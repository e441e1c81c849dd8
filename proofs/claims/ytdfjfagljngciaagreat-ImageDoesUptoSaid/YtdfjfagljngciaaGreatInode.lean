/- Package inode, and what its statements lean on: what each function does to a node. Package inode: a node of another size, a page that is put into it, how many words it has. Package inode: a page that is put into a node, how many words it has. -/
import Derived.Test.YtdfjfagljngciaaGreatCs
import Derived.Test.YtdfjfagljngciaaGreatTypesZ
import Derived.Test.YtdfjfagljngciaaGreatHints
set_option linter.all false
set_option maxRecDepth 100000
set_option maxHeartbeats 4000000
namespace Go.Proofs.YtdfjfagljngciaaGreat
open Go.RowKit Rx

theorem one_entry : OneC rEntry := by
  rintro X w x cs ⟨rfl, -⟩ u hu
  simp [Entry.enc] at hu
  rcases hu with rfl | rfl <;> rfl
theorem one_node : OneC rNode := by
  rintro X w x cs ⟨d1, d2, rfl, ⟨a1, c1, rfl, -⟩, ⟨a2, c2, rfl, -⟩, -⟩ u hu
  simp [Node.enc] at hu
  rcases hu with rfl | rfl | rfl | rfl | rfl | rfl | rfl <;> rfl
theorem flat_entry : Flat rEntry := by rintro X Y w w' x cs h; exact h
def needI (size : Int) : Int := if size < 1 then 0 else (size - 1) / 256 + 1
theorem inode_Need (size : Int) (hs : I64 size) (w : World) : Calls Tryz.prog 140 #[.int .i64 size] w fun e w' => e = .returned (.int .i64 (needI size)) ∧ w = w' := by
  obtain ⟨h1, h2⟩ := hs
  refine calls_rx h140 Tryz.func140 rfl Tryz.mixed (by kernel_rfl) Tryz.results140 ?_
  unfold needI
  by_cases h : size < 1
  · simp -dsimp [go_sem, h]
  · have e1 : IntKind.i64.wrap (size - 1) = size - 1 := IntWalk.i64_in _ (by omega)
    have e2 : (size - 1).tdiv 256 = (size - 1) / 256 := Int.tdiv_eq_ediv_of_nonneg (by omega)
    have e3 : IntKind.i64.wrap ((size - 1) / 256) = (size - 1) / 256 := IntWalk.i64_in _ (by omega)
    have e4 : IntKind.i64.wrap ((size - 1) / 256 + 1) = (size - 1) / 256 + 1 := IntWalk.i64_in _ (by omega)
    simp -dsimp [go_sem, h, e1, e2, e3, e4]
theorem inode_New (ino kind up : Int) (w : World) : Calls Tryz.prog 53 #[.int .i64 ino, .int .i64 kind, .int .i64 up] w fun e w' => e = .returned (.agg ((⟨ino, kind, 1, 0, if kind = 2 then up else 0, [], []⟩ : Node).enc (.slice none 0 0) (.slice none 0 0)).toArray) ∧ Keep w w' := by
  refine calls_rx h53 Tryz.func53 rfl Tryz.mixed (by kernel_rfl) Tryz.results53 ?_
  by_cases hk : kind = 2
  · simp -dsimp [go_sem, hk]
    exact ⟨rfl, ((Keep.refl w).alloc _).alloc _⟩
  · simp -dsimp [go_sem, hk]
    exact ⟨rfl, ((Keep.refl w).alloc _).alloc _⟩
theorem clone_ints (X : Nat → Prop) (v : Value) (l : List Int) (w : World) (h : Sl rInt X w v l) (hl : l.length ≤ 2 ^ 40) : Calls Tryz.prog 66 #[v] w fun e w' => ∃ v', e = .returned v' ∧ Ow rInt 3 X w' v' l ∧ Keep w w' ∧ ∀ g, ownB v' = some g → w.heap.size ≤ g := by
  refine calls_rx h66 Tryz.func66 rfl Tryz.mixed (by kernel_rfl) Tryz.results66 ?_
  obtain ⟨a, c, rfl, hc, hm, hs⟩ := id h
  cases a with
  | none =>
    have hl0 : l = [] := by
      cases l with
      | nil => rfl
      | cons x r => obtain ⟨b, off, e, -⟩ := hs (by simp); cases e
    subst hl0
    have q : ∀ w, (binOp .eql 39 (.slice none ([] : List Int).length c) (.slice none 0 0)).run Tryz.prog w = .ok (.bool true) w := fun w => eql_sl0 w none _ c Tryz.underlying39
    simp at q
    simp -dsimp [go_sem, q]
    exact ⟨Ow.nil _ _ _ _, Keep.refl w, by simp [ownB]⟩
  | some a =>
    have q : ∀ w, (binOp .eql 39 (.slice (some a) l.length c) (.slice none 0 0)).run Tryz.prog w = .ok (.bool false) w := fun w => eql_sl0 w (some a) _ c Tryz.underlying39
    simp -dsimp [go_sem, q]
    refine app_clone 8 Tryz.underlying39 (by kernel_rfl) one_int _ (h.keep (keep_alloc w _)) (by omega) ?_
    intro v' w' h1 k1 b1
    simp -dsimp [go_sem]
    exact ⟨h1, Keep.trans (keep_alloc w _) k1, fun g hg => by have := b1 g hg; simp at this; omega⟩
theorem clone_entries (X : Nat → Prop) (v : Value) (l : List Entry) (w : World) (h : Sl rEntry X w v l) (hl : l.length ≤ 2 ^ 40) : Calls Tryz.prog 67 #[v] w fun e w' => ∃ v', e = .returned v' ∧ Ow rEntry 110 X w' v' l ∧ Keep w w' ∧ ∀ g, ownB v' = some g → w.heap.size ≤ g := by
  refine calls_rx h67 Tryz.func67 rfl Tryz.mixed (by kernel_rfl) Tryz.results67 ?_
  obtain ⟨a, c, rfl, hc, hm, hs⟩ := id h
  cases a with
  | none =>
    have hl0 : l = [] := by
      cases l with
      | nil => rfl
      | cons x r => obtain ⟨b, off, e, -⟩ := hs (by simp); cases e
    subst hl0
    have q : ∀ w, (binOp .eql 40 (.slice none ([] : List Entry).length c) (.slice none 0 0)).run Tryz.prog w = .ok (.bool true) w := fun w => eql_sl0 w none _ c Tryz.underlying40
    simp at q
    simp -dsimp [go_sem, q]
    exact ⟨Ow.nil _ _ _ _, Keep.refl w, by simp [ownB]⟩
  | some a =>
    have q : ∀ w, (binOp .eql 40 (.slice (some a) l.length c) (.slice none 0 0)).run Tryz.prog w = .ok (.bool false) w := fun w => eql_sl0 w (some a) _ c Tryz.underlying40
    simp -dsimp [go_sem, q]
    refine app_clone 24 Tryz.underlying40 (by kernel_rfl) one_entry _ (h.keep (keep_alloc w _)) (by omega) ?_
    intro v' w' h1 k1 b1
    simp -dsimp [go_sem]
    exact ⟨h1, Keep.trans (keep_alloc w _) k1, fun g hg => by have := b1 g hg; simp at this; omega⟩
theorem Ow.all {α : Type} {r : Rep α} (hf : Flat r) {e : TypeId} {X Y : Nat → Prop} {w : World} {v : Value} {l : List α} (h : Ow r e X w v l) : Ow r e Y w v l := h.flat (O := fun _ => False) hf (Step.refl _ _) (fun _ _ q => q)
/-- A node's value, its two rows its own: p and m. -/
structure NOw (w : World) (n : Node) (p m : Value) : Prop where
  po : Ow rInt 3 (fun _ => True) w p n.pages
  mo : Ow rEntry 110 (fun _ => True) w m n.names
  ne : ∀ b, ownB p = some b → ownB m = some b → False
/-- .. both of them new. -/
structure NNew (B : Nat) (w : World) (n : Node) (p m : Value) : Prop extends NOw w n p m where
  pb : ∀ b, ownB p = some b → B ≤ b
  mb : ∀ b, ownB m = some b → B ≤ b
theorem NNew.le {B B' : Nat} {w : World} {n : Node} {p m : Value} (h : NNew B w n p m) (hb : B' ≤ B) : NNew B' w n p m := ⟨h.toNOw, fun b q => Nat.le_trans hb (h.pb b q), fun b q => Nat.le_trans hb (h.mb b q)⟩
theorem NOw.step {O : Nat → Prop} {w w' : World} {n : Node} {p m : Value} (h : NOw w n p m) (hs : Step O w w') (h1 : ∀ b, ownB p = some b → ¬ O b) (h2 : ∀ b, ownB m = some b → ¬ O b) : NOw w' n p m := ⟨h.po.flat flat_int hs h1, h.mo.flat flat_entry hs h2, h.ne⟩
theorem NOw.keep {w w' : World} {n : Node} {p m : Value} (h : NOw w n p m) (hs : Keep w w') : NOw w' n p m := h.step hs (fun _ _ q => q) (fun _ _ q => q)
theorem NNew.step {B : Nat} {O : Nat → Prop} {w w' : World} {n : Node} {p m : Value} (h : NNew B w n p m) (hs : Step O w w') (hO : ∀ b, B ≤ b → ¬ O b) : NNew B w' n p m := ⟨h.toNOw.step hs (fun b q => hO b (h.pb b q)) (fun b q => hO b (h.mb b q)), h.pb, h.mb⟩
theorem NNew.keep {B : Nat} {w w' : World} {n : Node} {p m : Value} (h : NNew B w n p m) (hs : Keep w w') : NNew B w' n p m := h.step hs (fun _ _ q => q)
theorem NOw.rep {X : Nat → Prop} {w : World} {n : Node} {p m : Value} (h : NOw w n p m) (hok : n.ok) (h1 : ∀ b, ownB p = some b → ¬ X b) (h2 : ∀ b, ownB m = some b → ¬ X b) : rNode.R X w n (n.enc p m) :=
  ⟨p, m, rfl, (h.po.all flat_int).sl h1, (h.mo.all flat_entry).sl h2, hok⟩
theorem NNew.rep {B : Nat} {X : Nat → Prop} {w : World} {n : Node} {p m : Value} (h : NNew B w n p m) (hok : n.ok) (hX : ∀ b, b < w.heap.size → X b → b < B) : rNode.R X w n (n.enc p m) :=
  h.toNOw.rep hok (fun b q x => by have := h.pb b q; have := hX b (h.po.lt q) x; omega) (fun b q x => by have := h.mb b q; have := hX b (h.mo.lt q) x; omega)
theorem NOw.slices {w : World} {n : Node} {p m : Value} (h : NOw w n p m) : ∃ a c a' c', p = .slice a n.pages.length c ∧ m = .slice a' n.names.length c' ∧ n.pages.length ≤ c ∧ c ≤ maxLen ∧ n.names.length ≤ c' ∧ c' ≤ maxLen := by
  obtain ⟨a, c, rfl, h1, h2⟩ := h.po.slice
  obtain ⟨a', c', rfl, h3, h4⟩ := h.mo.slice
  exact ⟨a, c, a', c', rfl, rfl, h1, h2, h3, h4⟩
theorem inode_Copy (X : Nat → Prop) (n : Node) (cs : List Value) (w : World) (h : rNode.R X w n cs) (hp : n.pages.length ≤ 2 ^ 40) (hn : n.names.length ≤ 2 ^ 40) : Calls Tryz.prog 38 #[.agg cs.toArray] w fun e w' => ∃ p m, e = .returned (.agg (n.enc p m).toArray) ∧ NNew w.heap.size w' n p m ∧ Keep w w' := by
  obtain ⟨d1, d2, rfl, h1, h2, hok⟩ := h
  refine calls_rx h38 Tryz.func38 rfl Tryz.mixed (by kernel_rfl) Tryz.results38 ?_
  unfold Node.enc
  simp -dsimp [go_sem]
  have E0 := blk_alloc (heap_alloc_new w (.cells (n.enc d1 d2).toArray 42)) (.cells ((⟨0, 0, 0, 0, 0, [], []⟩ : Node).enc (.slice none 0 0) (.slice none 0 0)).toArray 42)
  have E1 := heap_alloc_new (w.alloc (.cells (n.enc d1 d2).toArray 42)) (.cells ((⟨0, 0, 0, 0, 0, [], []⟩ : Node).enc (.slice none 0 0) (.slice none 0 0)).toArray 42)
  have k0 : Keep w ((w.alloc (.cells (n.enc d1 d2).toArray 42)).alloc (.cells ((⟨0, 0, 0, 0, 0, [], []⟩ : Node).enc (.slice none 0 0) (.slice none 0 0)).toArray 42)) := ((Keep.refl w).alloc _).alloc _
  unfold Node.enc at E0 E1 k0
  rw [World.size_alloc] at E1
  generalize hW : (w.alloc _).alloc _ = W at E0 E1 k0 ⊢
  refine (clone_ints X d1 n.pages W.drew ((h1.keep k0).keep (keep_drew W)) hp).mono ?_; rintro _ w1 ⟨p, rfl, o1, k1, b1⟩; refine ret_intro ?_
  have k01 := Keep.trans (keep_drew W) k1
  replace E0 := Step.blk k01 E0 (fun q => q); replace E1 := Step.blk k01 E1 (fun q => q)
  have E0c := blk_cell E0; have E0f := blk_free E0; have E0l := blk_lt E0; have E1c := blk_cell E1; have E1f := blk_free E1; have E1l := blk_lt E1
  simp -dsimp [go_sem, E0c, E0f, E0l, E1c, E1f, E1l]
  refine ⟨Keep.agree k01 (Agree.refl _), ?_⟩
  refine (clone_entries X d2 n.names w1 ((h2.keep k0).keep k01) hn).mono ?_; rintro _ w2 ⟨m, rfl, o2, k2, b2⟩; refine ret_intro ?_
  have k02 := Keep.trans k01 k2
  have ne : ∀ b, ownB p = some b → ownB m = some b → False := fun b h1 h2 => by have := o1.lt h1; have := b2 b h2; omega
  replace E0 := Step.blk k2 E0 (fun q => q); replace E1 := Step.blk k2 E1 (fun q => q)
  have E0c := blk_cell E0; have E0f := blk_free E0; have E0l := blk_lt E0; have E1c := blk_cell E1; have E1f := blk_free E1; have E1l := blk_lt E1
  replace o1 := o1.keep k2
  obtain ⟨pa, pc, rfl, -⟩ := o1.slice
  obtain ⟨ma, mc, rfl, -⟩ := o2.slice
  simp -dsimp [go_sem, E0c, E0f, E0l, E1c, E1f, E1l]
  have kk : Keep w w2 := Keep.trans k0 k02
  have hks : ∀ w3, Step (fun k => k = w.heap.size ∨ k = w.heap.size + 1) w2 w3 → Ow rInt 3 X w3 (.slice pa n.pages.length pc) n.pages ∧ Ow rEntry 110 X w3 (.slice ma n.names.length mc) n.names ∧ Keep w w3 := fun w3 hs => by
    have l1 := k0.size
    have l2 := k1.size
    have l3 := k2.size
    have l4 : W.heap.size = w.heap.size + 2 := by rw [← hW]; simp
    refine ⟨o1.flat flat_int hs fun g hg q => ?_, o2.flat flat_entry hs fun g hg q => ?_, Step.keep kk hs (fun i q => by omega)⟩
    · have := b1 g hg; simp at this; omega
    · have := b2 g hg; omega
  generalize qw3 : World.setCell _ _ _ = w3; have sw3 : Step (fun k => k = w.heap.size ∨ k = w.heap.size + 1) w2 w3 := by (rw [← qw3]; (repeat (with_reducible refine Step.set ?_ ?_ _)); (with_reducible exact Step.refl _ _); all_goals exact .inl (by simp))
  obtain ⟨z1, z2, z3⟩ := hks _ sw3
  refine ⟨_, _, ⟨rfl, rfl⟩, ⟨⟨z1.all flat_int, z2.all flat_entry, ne⟩, fun g hg => ?_, fun g hg => ?_⟩, z3⟩
  · have := b1 g hg; have := k0.size; simp at *; omega
  · have := b2 g hg; have := k0.size; have := k1.size; simp at *; omega
theorem one_int_cs (x : Int) (hx : I64 x) (X : Nat → Prop) (w : World) : Cs rInt X w [x] [.int .i64 x] := Cs.one ⟨rfl, hx⟩
theorem inode_some (X : Nat → Prop) (v : Value) (l : List Int) (w : World) (h : Sl rInt X w v l) (hl : l.length ≤ 2 ^ 40) : Calls Tryz.prog 115 #[v] w fun e w' => ∃ v', e = .returned v' ∧ Ow rInt 3 (fun _ => True) w' v' (l.filter (fun x => !decide (x = 0))) ∧ Keep w w' ∧ ∀ g, ownB v' = some g → w.heap.size ≤ g := by
  obtain ⟨a, c, rfl, -⟩ := id h
  have step : ∀ (i : Nat) (v : Value) (w1 : World) (x : Int), l[i]? = some x → Keep w w1 → Ow rInt 3 (fun _ => True) w1 v ((l.take i).filter (fun x => !decide (x = 0))) → (∀ g, ownB v = some g → w.heap.size ≤ g) → x ≠ 0 →
      ∀ (k : Value → World → Prop) (tk : Tag k), (∀ v' w', Keep w w' → Ow rInt 3 (fun _ => True) w' v' ((l.take (i + 1)).filter (fun x => !decide (x = 0))) → (∀ g, ownB v' = some g → w.heap.size ≤ g) → k v' w') →
      appF Tryz.prog #[39, 39] 39 (Shut k tk) v (.slice (some ⟨w1.heap.size, 0, none⟩) 1 1) (w1.alloc (.cells #[.int .i64 x] 3)) := by
    intro i v w1 x hx k1 o1 b1 hx0 k tk hk
    have hxi : I64 x := by obtain ⟨_, _, _, _, _, _, _, q⟩ := h.int hx; exact q
    have hlen : ((l.take i).filter (fun x => !decide (x = 0))).length ≤ 2 ^ 40 := Nat.le_trans (List.length_filter_le _ _) (Nat.le_trans (List.length_take_le' i l) hl)
    refine app_flat 8 flat_int Tryz.underlying39 (by kernel_rfl) one_int (o1.keep (keep_alloc w1 _)) (Sl.of_blk (X := fun _ => False) (l := [x]) (heap_alloc_new w1 _) id (one_int_cs x hxi _ _) rfl (by unfold maxLen; omega)) (by rw [List.length_singleton]; unfold maxLen; omega) (by rw [List.length_singleton]; omega) ?_
    intro v' w' h1 k2 b2
    refine hk v' w' (Step.keep (k1.alloc _) k2 b1) ?_ (fun g hg => ?_)
    · rw [List.take_add_one, hx, List.filter_append]; simpa [hx0] using h1
    · rcases b2 g hg with q | q
      · exact b1 g q
      · have := k1.size; simp at q; omega
  refine calls_rx h115 Tryz.func115 rfl Tryz.mixed (by kernel_rfl) Tryz.results115 ?_
  simp -dsimp [go_sem]
  refine scope_intro (σ := Nat × Value) (fun s => [s.2, .int .i64 s.1]) (fun s w' => s.1 ≤ l.length ∧ Keep w w' ∧ Ow rInt 3 (fun _ => True) w' s.2 ((l.take s.1).filter (fun x => !decide (x = 0))) ∧ ∀ g, ownB s.2 = some g → w.heap.size ≤ g) (fun s => l.length - s.1) (l.length + 1) [(0, (true, .slice a l.length c))] ?_ ?_
  · simp -dsimp [go_sem]
    refine condF_intro (fun g1 => ?_) (fun g1 => ?_)
    · have g1 : 0 < l.length := by simpa [List.length_pos_iff] using g1
      have e0 : IntKind.i64.wrap 1 = 1 := by decide
      have hx : l[0]? = some l[0] := List.getElem?_eq_getElem _
      generalize l[0] = x at hx
      obtain ⟨b, off, c', e, hb, -, hc, hxi⟩ := h.int hx
      cases e
      rw [Nat.add_zero] at hc
      simp -dsimp [go_sem, g1, hb, hc]
      refine condF_intro (fun g2 => ?_) (fun g2 => ?_)
      · simp at g2
        simp -dsimp [go_sem, g1, hb, hc]
        refine step 0 (.slice none 0 0) w x hx (Keep.refl w) (Ow.nil _ _ _ _) (by simp [ownB]) g2 _ _ ?_
        intro v' w' q1 q2 q3
        simp -dsimp [go_sem]
        exact back_intro (1, v') (by simp -dsimp [go_sem, e0]) (by simp -dsimp [go_sem]) ⟨by show 1 ≤ l.length; omega, q1, q2, q3⟩ (by show l.length - 1 < l.length + 1; omega)
      · simp at g2
        simp -dsimp [go_sem]
        exact back_intro (1, .slice none 0 0) (by simp -dsimp [go_sem, e0]) (by simp -dsimp [go_sem]) ⟨by show 1 ≤ l.length; omega, Keep.refl w, by rw [List.take_add_one, hx]; simpa [g2] using Ow.nil _ _ _ _, by simp [ownB]⟩ (by show l.length - 1 < l.length + 1; omega)
    · have : l = [] := by simpa using g1
      subst this
      simp -dsimp [go_sem]
      exact ⟨Ow.nil _ _ _ _, Keep.refl w, by simp [ownB]⟩
  · rintro ⟨i, v⟩ w1 ⟨hi, k1, o1, b1⟩
    simp only at hi o1 b1
    simp -dsimp [go_sem]
    refine condF_intro (fun g1 => ?_) (fun g1 => ?_)
    · simp at g1
      have hx : l[i]? = some l[i] := List.getElem?_eq_getElem _
      generalize l[i] = x at hx
      obtain ⟨b, off, c', e, hb, -, hc, hxi⟩ := (h.keep k1).int hx
      cases e
      have i2 : (i : Int) < l.length := by omega
      simp -dsimp [go_sem, i2, hb, hc]
      refine condF_intro (fun g2 => ?_) (fun g2 => ?_)
      · simp at g2
        simp -dsimp [go_sem, i2, hb, hc]
        refine step i v w1 x hx k1 o1 b1 g2 _ _ ?_
        intro v' w' q1 q2 q3
        simp -dsimp [go_sem]
        try simp -dsimp (disch := omega) only [IntWalk.i64_in, IntWalk.u64_in, IntWalk.u8_in]
        exact back_intro (i + 1, v') (by simp -dsimp [go_sem]) (by simp -dsimp [go_sem]) ⟨by show i + 1 ≤ l.length; omega, q1, q2, q3⟩ (by show l.length - (i + 1) < l.length - i; omega)
      · simp at g2
        simp -dsimp [go_sem]
        try simp -dsimp (disch := omega) only [IntWalk.i64_in, IntWalk.u64_in, IntWalk.u8_in]
        exact back_intro (i + 1, v) (by simp -dsimp [go_sem]) (by simp -dsimp [go_sem]) ⟨by show i + 1 ≤ l.length; omega, k1, by show Ow _ _ _ _ _ _; rw [List.take_add_one, hx]; simpa [g2] using o1, b1⟩ (by show l.length - (i + 1) < l.length - i; omega)
    · simp at g1
      obtain rfl : i = l.length := by omega
      simp -dsimp [go_sem]
      simp at o1
      exact ⟨o1, k1, b1⟩
theorem inode_Refs (X : Nat → Prop) (n : Node) (cs : List Value) (w : World) (h : rNode.R X w n cs) (hp : n.pages.length ≤ 2 ^ 40) : Calls Tryz.prog 78 #[.agg cs.toArray] w fun e w' => ∃ v', e = .returned v' ∧ Ow rInt 3 (fun _ => True) w' v' (n.pages.filter (fun x => !decide (x = 0))) ∧ Keep w w' ∧ ∀ g, ownB v' = some g → w.heap.size ≤ g := by
  obtain ⟨d1, d2, rfl, h1, h2, hok⟩ := h
  refine calls_rx h78 Tryz.func78 rfl Tryz.mixed (by kernel_rfl) Tryz.results78 ?_
  unfold Node.enc
  simp -dsimp [go_sem]
  refine (inode_some X d1 n.pages _ (h1.keep (keep_alloc w _)) hp).mono ?_; rintro _ w1 ⟨p, rfl, o1, k1, b1⟩; refine ret_intro ?_
  simp -dsimp [go_sem]
  exact ⟨o1, Keep.trans (keep_alloc w _) k1, fun g hg => by have := b1 g hg; simp at this; omega⟩
end Go.Proofs.YtdfjfagljngciaaGreat

set_option linter.all false
set_option maxRecDepth 100000
set_option maxHeartbeats 4000000
namespace Go.Proofs.YtdfjfagljngciaaGreat
open Go.RowKit Rx

def resizeN (n : Node) (size : Int) : Node × List Int :=
  if size < 0 ∨ 16384 < size then (n, []) else
  let k := (needI size).toNat
  if k < n.pages.length then ({ n with size := size, pages := n.pages.take k }, (n.pages.drop k).filter (fun x => !decide (x = 0)))
  else ({ n with size := size, pages := n.pages ++ List.replicate (k - n.pages.length) 0 }, [])
theorem inode_Resize (X : Nat → Prop) (n : Node) (cs : List Value) (size : Int) (hsz : I64 size) (w : World) (h : rNode.R X w n cs) (hp : n.pages.length ≤ 2 ^ 20) (hn : n.names.length ≤ 2 ^ 40) :
    Calls Tryz.prog 113 #[.agg cs.toArray, .int .i64 size] w fun e w' => ∃ p m g, e = .returned (.tuple #[.agg ((resizeN n size).1.enc p m).toArray, g]) ∧ NNew w.heap.size w' (resizeN n size).1 p m ∧ Ow rInt 3 (fun _ => True) w' g (resizeN n size).2 ∧ Keep w w' ∧ (∀ b, ownB g = some b → w.heap.size ≤ b) := by
  have hh := h
  obtain ⟨d1, d2, rfl, h1, h2, hok⟩ := h
  refine calls_rx h113 Tryz.func113 rfl Tryz.mixed (by kernel_rfl) Tryz.results113 ?_
  unfold Node.enc
  simp -dsimp [go_sem]
  have E0 := blk_alloc (heap_alloc_new w (.cells (n.enc d1 d2).toArray 42)) (.cells ((⟨0, 0, 0, 0, 0, [], []⟩ : Node).enc (.slice none 0 0) (.slice none 0 0)).toArray 42)
  have E1 := heap_alloc_new (w.alloc (.cells (n.enc d1 d2).toArray 42)) (.cells ((⟨0, 0, 0, 0, 0, [], []⟩ : Node).enc (.slice none 0 0) (.slice none 0 0)).toArray 42)
  have k0 : Keep w ((w.alloc (.cells (n.enc d1 d2).toArray 42)).alloc (.cells ((⟨0, 0, 0, 0, 0, [], []⟩ : Node).enc (.slice none 0 0) (.slice none 0 0)).toArray 42)) := ((Keep.refl w).alloc _).alloc _
  unfold Node.enc at E0 E1 k0
  rw [World.size_alloc] at E1
  generalize hW : (w.alloc _).alloc _ = W at E0 E1 k0 ⊢
  have hWs : W.heap.size = w.heap.size + 2 := by rw [← hW]; simp
  refine (inode_Copy X n _ W (rNode.keep hh k0) (by omega) hn).mono ?_; rintro _ w1 ⟨p, m, rfl, o1, k1⟩; refine ret_intro ?_
  replace E0 := Step.blk k1 E0 (fun q => q); replace E1 := Step.blk k1 E1 (fun q => q)
  have E0c := blk_cell E0; have E0f := blk_free E0; have E0l := blk_lt E0; have E1c := blk_cell E1; have E1f := blk_free E1; have E1l := blk_lt E1
  obtain ⟨pa, pc, ma, mc, rfl, rfl, hpc, hpm, hmc, hmm⟩ := o1.slices
  have q1 := h1.len
  have kk : ∀ w3, Step (fun k => w.heap.size ≤ k) w1 w3 → Keep w w3 := fun w3 hs => Step.keep (Keep.trans k0 k1) hs (fun i q => q)
  unfold Node.enc
  unfold resizeN
  by_cases g1 : size < 0
  · rw [if_pos (.inl g1)]
    simp -dsimp [go_sem, E0c, E0f, E0l, E1c, E1f, E1l, g1]
    generalize qw3 : World.setCell _ _ _ = w3; have sw3 : Step (fun k => k = w.heap.size ∨ k = w.heap.size + 1) w1 w3 := by (rw [← qw3]; (repeat (with_reducible refine Step.set ?_ ?_ _)); (with_reducible exact Step.refl _ _); all_goals exact .inl (by simp))
    exact ⟨_, _, _, ⟨⟨rfl, rfl⟩, rfl⟩, NNew.le (B := w.heap.size + 2) (NNew.step (hWs ▸ o1) sw3 (fun b hb q => by omega)) (by omega), Ow.nil _ _ _ _, kk _ (sw3.mono (fun k _ q => by omega)), by simp [ownB]⟩
  by_cases g2 : 16384 < size
  · rw [if_pos (.inr g2)]
    simp -dsimp [go_sem, E0c, E0f, E0l, E1c, E1f, E1l, g1, g2]
    generalize qw3 : World.setCell _ _ _ = w3; have sw3 : Step (fun k => k = w.heap.size ∨ k = w.heap.size + 1) w1 w3 := by (rw [← qw3]; (repeat (with_reducible refine Step.set ?_ ?_ _)); (with_reducible exact Step.refl _ _); all_goals exact .inl (by simp))
    exact ⟨_, _, _, ⟨⟨rfl, rfl⟩, rfl⟩, NNew.le (B := w.heap.size + 2) (NNew.step (hWs ▸ o1) sw3 (fun b hb q => by omega)) (by omega), Ow.nil _ _ _ _, kk _ (sw3.mono (fun k _ q => by omega)), by simp [ownB]⟩
  rw [if_neg (by omega)]
  simp -dsimp [go_sem, E0c, E0f, E0l, E1c, E1f, E1l, g1, g2]
  generalize qw2 : World.setCell _ _ _ = w2; have sw2 : Step (fun k => k = w.heap.size) w1 w2 := by (rw [← qw2]; (repeat (with_reducible refine Step.set ?_ ?_ _)); (with_reducible exact Step.refl _ _); all_goals exact .inl (by simp))
  replace E0 : (World.heap w2)[w.heap.size]? = some (.cells #[.int .i64 n.ino, .int .i64 n.kind, .int .i64 n.links, .int .i64 size, .int .i64 n.up, .slice pa n.pages.length pc, .slice ma n.names.length mc] 42 (0, 0)) := by (rw [← qw2]; apply blk_eq; (case h => ((repeat (first | with_reducible apply blk_set | with_reducible refine blk_far ?_ (by simp) _)); (exact E0))); (case e => (first | rfl | simp)))
  replace E1 := sw2.blk E1 (by omega)
  clear qw2
  refine (inode_Need size hsz w2).mono ?_; rintro _ w2' ⟨rfl, rfl⟩; refine ret_intro ?_
  have E0c := blk_cell E0; have E0f := blk_free E0; have E0l := blk_lt E0; have E1c := blk_cell E1; have E1f := blk_free E1; have E1l := blk_lt E1
  have hN : 0 ≤ needI size ∧ needI size ≤ 64 := by unfold needI; split <;> omega
  generalize hNk : needI size = N at hN ⊢
  by_cases g3 : N < n.pages.length
  · have g3' : N.toNat < n.pages.length := by omega
    rw [if_pos g3']
    obtain ⟨NN, rfl⟩ := Int.eq_ofNat_of_zero_le hN.1
    have g4 : ¬ ((n.pages.length : Int) < NN) := by omega
    have g5 : NN ≤ pc := by omega
    have g6 : NN ≤ n.pages.length := by omega
    simp -dsimp [go_sem, E0c, E0f, E0l, E1c, E1f, E1l, g3, g4, g5, g6]
    have o1' := (hWs ▸ o1 : NNew (w.heap.size + 2) w1 n (.slice pa n.pages.length pc) (.slice ma n.names.length mc)).step sw2 (fun b hb q => by omega)
    obtain ⟨a', c', e', -, -, o2, b2⟩ := o1'.po.cut (i := NN) (m := n.pages.length) g6 (Nat.le_refl _)
    simp only [Value.slice.injEq, true_and] at e'
    obtain ⟨rfl, rfl⟩ := e'
    unfold sliced at o2 b2
    have l2 : ((n.pages.drop NN).take (n.pages.length - NN)) = n.pages.drop NN := List.take_of_length_le (by simp)
    rw [l2] at o2
    simp only [rInt, Nat.mul_one] at b2 o2
    refine (inode_some (fun _ => False) _ (n.pages.drop NN) w2 ((o2.all flat_int).sl (fun _ _ q => q)) (by simp; omega)).mono ?_; rintro _ w4 ⟨g, rfl, o4, k4, b4⟩; refine ret_intro ?_
    replace E0 := Step.blk k4 E0 (fun q => q); replace E1 := Step.blk k4 E1 (fun q => q)
    have E0c := blk_cell E0; have E0f := blk_free E0; have E0l := blk_lt E0; have E1c := blk_cell E1; have E1f := blk_free E1; have E1l := blk_lt E1
    obtain ⟨ga, gc, rfl, hg1, hg2⟩ := o4.slice
    simp -dsimp [go_sem, E0c, E0f, E0l, E1c, E1f, E1l, g3, g4, g5, g6]
    generalize qw5 : World.setCell _ _ _ = w5; have sw5 : Step (fun k => k = w.heap.size ∨ k = w.heap.size + 1) w4 w5 := by (rw [← qw5]; (repeat (with_reducible refine Step.set ?_ ?_ _)); (with_reducible exact Step.refl _ _); all_goals exact .inl (by simp))
    obtain ⟨a', c', e', -, -, o5, b5⟩ := o1'.po.cut (i := 0) (m := NN) (Nat.zero_le _) g6
    simp only [Value.slice.injEq, true_and] at e'
    obtain ⟨rfl, rfl⟩ := e'
    rw [sliced_zero] at o5 b5
    simp only [List.drop_zero, Nat.sub_zero] at o5
    have o6 := o1'.keep k4
    have l5 := sw2.size
    have l6 := k1.size
    refine ⟨_, _, _, ⟨⟨rfl, rfl⟩, rfl⟩, ⟨⟨(o5.keep k4).flat flat_int sw5 (fun b hb q => ?_), o6.mo.flat flat_entry sw5 (fun b hb q => ?_), fun b h1 h2 => o6.ne b (b5 b h1) h2⟩, fun b hb => ?_, fun b hb => ?_⟩, o4.flat flat_int sw5 (fun b hb q => ?_), ?_, fun b hb => ?_⟩
    · have := o6.pb b (b5 b hb); omega
    · have := o6.mb b hb; omega
    · have := o6.pb b (b5 b hb); omega
    · have := o6.mb b hb; omega
    · have := b4 b hb; omega
    · exact Step.keep (Keep.trans (kk w2 (sw2.mono (fun k _ q => by omega))) k4) sw5 (fun i q => by omega)
    · have := b4 b hb; omega
  · rw [if_neg (by omega)]
    obtain ⟨NN, rfl⟩ := Int.eq_ofNat_of_zero_le hN.1
    have hN2 := hN.2
    have g3 : n.pages.length ≤ NN := by omega
    have g3' : ¬ ((NN : Int) < n.pages.length) := by omega
    simp only [Int.toNat_natCast]
    have o1' := (hWs ▸ o1 : NNew (w.heap.size + 2) w1 n (.slice pa n.pages.length pc) (.slice ma n.names.length mc)).step sw2 (fun b hb q => by omega)
    have l5 := sw2.size
    have l6 := k1.size
    simp -dsimp [go_sem, E0c, E0f, E0l, E1c, E1f, E1l, g3']
    refine loop_intro (σ := Nat × Value) (fun _ => []) (fun s w' => n.pages.length + s.1 ≤ NN ∧ w'.heap[w.heap.size]? = some (.cells #[.int .i64 n.ino, .int .i64 n.kind, .int .i64 n.links, .int .i64 size, .int .i64 n.up, s.2, .slice ma n.names.length mc] 42 (0, 0)) ∧
      w'.heap[w.heap.size + 1]? = some (.cells #[.int .i64 0, .int .i64 0, .int .i64 0, .int .i64 0, .int .i64 0, .slice none 0 0, .slice none 0 0] 42 (0, 0)) ∧
      NNew (w.heap.size + 2) w' { n with size := size, pages := n.pages ++ List.replicate s.1 0 } s.2 (.slice ma n.names.length mc) ∧ Step (fun k => w.heap.size ≤ k) w1 w') (fun s => NN - n.pages.length - s.1) (0, .slice pa n.pages.length pc) (by simp -dsimp [go_sem]; rfl) (by simp -dsimp [go_sem]) ⟨by show n.pages.length + 0 ≤ _; omega, E0, E1, by simpa using ⟨⟨o1'.po, o1'.mo, o1'.ne⟩, o1'.pb, o1'.mb⟩, sw2.mono (fun k _ q => by omega)⟩ ?_
    rintro ⟨j, pv⟩ w4 ⟨hj, F0, F1, O4, S4⟩
    simp only at hj O4 F0
    obtain ⟨pa4, pc4, -, -, rfl, -, hpc4, hpm4, -, -⟩ := O4.slices
    obtain ⟨⟨op4, om4, on4⟩, ob4, oc4⟩ := O4
    simp only [List.length_append, List.length_replicate] at F0 hpc4 op4 on4 ob4
    have hL : (n.pages ++ List.replicate j 0).length ≤ 64 := by simp; omega
    have F0c := blk_cell F0; have F0f := blk_free F0; have F0l := blk_lt F0; have F1c := blk_cell F1; have F1f := blk_free F1; have F1l := blk_lt F1
    simp -dsimp [go_sem, F0c, F0f, F0l, F1c, F1f, F1l]
    refine condF_intro (fun c1 => ?_) (fun c1 => ?_)
    · simp at c1
      simp -dsimp [go_sem, F0c, F0f, F0l, F1c, F1f, F1l]
      refine app_flat 8 flat_int Tryz.underlying39 (by kernel_rfl) one_int (op4.keep (keep_alloc w4 _)) (Sl.of_blk (X := fun _ => False) (l := [(0 : Int)]) (heap_alloc_new w4 _) id (one_int_cs 0 ⟨by decide, by decide⟩ _ _) rfl (by unfold maxLen; omega)) (by show (n.pages ++ List.replicate j 0).length + 1 ≤ maxLen; unfold maxLen; omega) (by show ((n.pages ++ List.replicate j 0).length + 1) * 8 ≤ _; omega) ?_
      intro v5 w5 o5 k5 b5
      obtain ⟨a5, c5, rfl, hc5, hm5⟩ := o5.slice
      have l7 := S4.size
      have g5 : ∀ b, ownB (.slice a5 (n.pages ++ List.replicate j 0 ++ [0]).length c5) = some b → w.heap.size + 2 ≤ b := fun b hb => by
        rcases b5 b hb with q | q
        · exact ob4 b q
        · simp at q; omega
      have S5 : Step (fun k => w.heap.size + 2 ≤ k) w4 w5 := Step.trans (keep_alloc w4 _).any k5 (fun i _ q => ob4 i q)
      have F0' := S5.blk F0 (by omega)
      have F1' := S5.blk F1 (by omega)
      have M5 : Ow rEntry 110 (fun _ => True) w5 (.slice ma n.names.length mc) n.names := om4.flat flat_entry (Step.trans (O := fun k => ownB (.slice pa4 (n.pages.length + j) pc4) = some k) (keep_alloc w4 _).any k5 (fun i _ q => q)) (fun b hb q => on4 b q hb)
      have N5 : ∀ b, ownB (.slice a5 (n.pages ++ List.replicate j 0 ++ [0]).length c5) = some b → ownB (.slice ma n.names.length mc) = some b → False := fun b hb hb2 => by
        rcases b5 b hb with q | q
        · exact on4 b q hb2
        · have := om4.lt hb2; simp at q; omega
      have F0'c := blk_cell F0'; have F0'f := blk_free F0'; have F0'l := blk_lt F0'; have F1'c := blk_cell F1'; have F1'f := blk_free F1'; have F1'l := blk_lt F1'
      simp -dsimp [go_sem, F0'c, F0'f, F0'l, F1'c, F1'f, F1'l]
      have hl : (n.pages ++ List.replicate j 0 ++ [0]) = n.pages ++ List.replicate (j + 1) 0 := by rw [List.replicate_succ', List.append_assoc]
      rw [hl] at o5 g5 N5
      have hl2 : (n.pages ++ List.replicate j 0 ++ [0]).length = (n.pages ++ List.replicate (j + 1) 0).length := by rw [hl]
      rw [hl2] at *
      refine back_intro (j + 1, .slice a5 (n.pages ++ List.replicate (j + 1) 0).length c5) (by simp -dsimp [go_sem]) (by simp -dsimp [go_sem]) ⟨by show n.pages.length + (j + 1) ≤ NN; omega, blk_eq (blk_set F0' 5 _) (by first | rfl | simp), blk_far F1' (by simp) _, ⟨⟨o5.flat flat_int ((Step.refl (fun k => k = w.heap.size) w5).set (.inl rfl) _) (fun b hb q => ?_), M5.flat flat_entry ((Step.refl (fun k => k = w.heap.size) w5).set (.inl rfl) _) (fun b hb q => ?_), N5⟩, g5, oc4⟩, ?_⟩ (by show NN - n.pages.length - (j + 1) < NN - n.pages.length - j; omega)
      · have := g5 b hb; omega
      · have := oc4 b hb; omega
      · exact (S4.trans (S5.mono (fun k _ q => by omega : ∀ k, k < w4.heap.size → w.heap.size + 2 ≤ k → w.heap.size ≤ k)) (fun i _ q => q)).set (.inl (Nat.le_refl _)) _
    · simp at c1
      have hj' : n.pages.length + j = NN := by omega
      simp -dsimp [go_sem, F0c, F0f, F0l, F1c, F1f, F1l]
      clear E0 E1 E0c E0f E0l E1c E1f E1l
      generalize qw5 : World.setCell _ _ _ = w5; have sw5 : Step (fun k => k = w.heap.size ∨ k = w.heap.size + 1) w4 w5 := by (rw [← qw5]; (repeat (with_reducible refine Step.set ?_ ?_ _)); (with_reducible exact Step.refl _ _); all_goals exact .inl (by simp))
      have l7 := S4.size
      have hj2 : NN - n.pages.length = j := by omega
      rw [hj2]
      refine ⟨_, _, _, ⟨⟨rfl, rfl⟩, rfl⟩, ⟨⟨op4.flat flat_int sw5 (fun b hb q => ?_), om4.flat flat_entry sw5 (fun b hb q => ?_), on4⟩, fun b hb => ?_, fun b hb => ?_⟩, Ow.nil _ _ _ _, ?_, by simp [ownB]⟩
      · have := ob4 b hb; omega
      · have := oc4 b hb; omega
      · have := ob4 b hb; omega
      · have := oc4 b hb; omega
      · exact kk _ (S4.trans sw5 (fun i _ q => by omega))
end Go.Proofs.YtdfjfagljngciaaGreat

set_option linter.all false
set_option maxRecDepth 100000
set_option maxHeartbeats 4000000
namespace Go.Proofs.YtdfjfagljngciaaGreat
open Go.RowKit Rx

def putN (n : Node) (i : Nat) (ref size : Int) : Node × Int :=
  let m := (resizeN n size).1
  ({ m with pages := m.pages.set i ref }, (m.pages[i]?).getD 0)
theorem resizeN_ok {n : Node} (h : n.ok) {size : Int} (hs : I64 size) : (resizeN n size).1.ok := by
  obtain ⟨h1, h2, h3, h4, h5⟩ := h
  unfold resizeN
  simp only
  repeat' split
  all_goals (refine ⟨?_, ?_, ?_, ?_, ?_⟩ <;> assumption)
theorem resizeN_len {n : Node} {size : Int} (h0 : 0 ≤ size) (h1 : size ≤ 16384) : (resizeN n size).1.pages.length = (needI size).toNat := by
  unfold resizeN
  rw [if_neg (by omega)]
  simp only
  split
  · simp; omega
  · simp; omega
theorem resizeN_names (n : Node) (size : Int) : (resizeN n size).1.names = n.names := by
  unfold resizeN
  simp only
  repeat' split
  all_goals rfl
theorem inode_Put (X : Nat → Prop) (n : Node) (cs : List Value) (i : Nat) (ref size : Int) (hr : I64 ref) (hs1 : 1 ≤ size) (hs2 : size ≤ 16384) (hi : (i : Int) < needI size) (w : World) (h : rNode.R X w n cs) (hp : n.pages.length ≤ 2 ^ 20) (hn : n.names.length ≤ 2 ^ 40) :
    Calls Tryz.prog 114 #[.agg cs.toArray, .int .i64 i, .int .i64 ref, .int .i64 size] w fun e w' => ∃ p m, e = .returned (.tuple #[.agg ((putN n i ref size).1.enc p m).toArray, .int .i64 (putN n i ref size).2]) ∧ NNew w.heap.size w' (putN n i ref size).1 p m ∧ Keep w w' := by
  have hh := h
  obtain ⟨d1, d2, rfl, h1, h2, hok⟩ := h
  have g1 : ¬ size < 1 := by omega
  have g2 : ¬ 16384 < size := by omega
  have g3 : ¬ (i : Int) < 0 := by omega
  have g4 : ¬ needI size ≤ (i : Int) := by omega
  have hpl := resizeN_len (n := n) (size := size) (by omega) hs2
  have hN : needI size ≤ 64 := by unfold needI; split <;> omega
  refine calls_rx h114 Tryz.func114 rfl Tryz.mixed (by kernel_rfl) Tryz.results114 ?_
  unfold Node.enc
  simp -dsimp [go_sem, g1, g2, g3]
  have E0 := blk_alloc (heap_alloc_new w (.cells (n.enc d1 d2).toArray 42)) (.cells ((⟨0, 0, 0, 0, 0, [], []⟩ : Node).enc (.slice none 0 0) (.slice none 0 0)).toArray 42)
  have E1 := heap_alloc_new (w.alloc (.cells (n.enc d1 d2).toArray 42)) (.cells ((⟨0, 0, 0, 0, 0, [], []⟩ : Node).enc (.slice none 0 0) (.slice none 0 0)).toArray 42)
  have k0 : Keep w ((w.alloc (.cells (n.enc d1 d2).toArray 42)).alloc (.cells ((⟨0, 0, 0, 0, 0, [], []⟩ : Node).enc (.slice none 0 0) (.slice none 0 0)).toArray 42)) := ((Keep.refl w).alloc _).alloc _
  unfold Node.enc at E0 E1 k0
  rw [World.size_alloc] at E1
  generalize hW : (w.alloc _).alloc _ = W at E0 E1 k0 ⊢
  have hWs : W.heap.size = w.heap.size + 2 := by rw [← hW]; simp
  refine (inode_Need size ⟨by omega, by omega⟩ W).mono ?_; rintro _ w1 ⟨rfl, rfl⟩; refine ret_intro ?_
  have E0c := blk_cell E0; have E0f := blk_free E0; have E0l := blk_lt E0; have E1c := blk_cell E1; have E1f := blk_free E1; have E1l := blk_lt E1
  simp -dsimp [go_sem, E0c, E0f, E0l, E1c, E1f, E1l, g4]
  refine (inode_Resize X n _ size ⟨by omega, by omega⟩ W (rNode.keep hh k0) hp hn).mono ?_; rintro _ w1 ⟨p, m, g, rfl, o1, o2, k1, b1⟩; refine ret_intro ?_
  have kk : ∀ w3, Step (fun k => w.heap.size ≤ k) w1 w3 → Keep w w3 := fun w3 hs => Step.keep (Keep.trans k0 k1) hs (fun i q => q)
  clear E0c E0f E0l E1c E1f E1l g4
  replace E0 := Step.blk k1 E0 (fun q => q); replace E1 := Step.blk k1 E1 (fun q => q)
  have E0c := blk_cell E0; have E0f := blk_free E0; have E0l := blk_lt E0; have E1c := blk_cell E1; have E1f := blk_free E1; have E1l := blk_lt E1
  unfold putN
  generalize (resizeN n size).1 = n1 at o1 hpl ⊢
  obtain ⟨pa, pc, ma, mc, rfl, rfl, hpc, hpm, hmc, hmm⟩ := o1.slices
  unfold Node.enc
  simp -dsimp [go_sem, E0c, E0f, E0l, E1c, E1f, E1l]
  generalize qw2 : World.setCell _ _ _ = w2; have sw2 : Step (fun k => k = w.heap.size) w1 w2 := by (rw [← qw2]; (repeat (with_reducible refine Step.set ?_ ?_ _)); (with_reducible exact Step.refl _ _); all_goals exact .inl (by simp))
  replace E0 : (World.heap w2)[w.heap.size]? = some (.cells #[.int .i64 n1.ino, .int .i64 n1.kind, .int .i64 n1.links, .int .i64 n1.size, .int .i64 n1.up, .slice pa n1.pages.length pc, .slice ma n1.names.length mc] 42 (0, 0)) := by (rw [← qw2]; apply blk_eq; (case h => ((repeat (first | with_reducible apply blk_set | with_reducible refine blk_far ?_ (by simp) _)); (exact E0))); (case e => (first | rfl | simp)))
  replace E1 := sw2.blk E1 (by omega)
  clear qw2
  have o3 := (hWs ▸ o1 : NNew (w.heap.size + 2) w1 n1 (.slice pa n1.pages.length pc) (.slice ma n1.names.length mc)).step sw2 (fun b hb q => by omega)
  have hi2 : i < n1.pages.length := by omega
  have hx : n1.pages[i]? = some n1.pages[i] := List.getElem?_eq_getElem hi2
  generalize n1.pages[i] = x at hx
  obtain ⟨gb, off, c', e', hgl, hgo, hgc, hgf, hx64, hset⟩ := o3.po.int_at hx
  simp only [Value.slice.injEq, true_and] at e'
  obtain ⟨rfl, rfl⟩ := e'
  have hgb := o3.pb gb hgo
  have i2 : (i : Int) < n1.pages.length := by omega
  clear E0c E0f E0l E1c E1f E1l
  have E0c := blk_cell E0; have E0f := blk_free E0; have E0l := blk_lt E0; have E1c := blk_cell E1; have E1f := blk_free E1; have E1l := blk_lt E1
  simp -dsimp [go_sem, E0c, E0f, E0l, E1c, E1f, E1l, i2, hi2, hgl, hgc, hgf]
  have o5 := hset ref hr
  have s5 : Step (fun k => k = gb) w2 (w2.setCell ⟨gb, off + i, none⟩ (.int .i64 ref)) := (Step.refl (fun k => k = gb) w2).set (p := ⟨gb, off + i, none⟩) (.inl rfl) _
  generalize qw5 : w2.setCell ⟨gb, off + i, none⟩ (.int .i64 ref) = w5 at o5 s5 ⊢
  clear qw5
  have l1 := k1.size
  have l2 := sw2.size
  generalize qw6 : World.setCell _ _ _ = w6; have sw6 : Step (fun k => k = w.heap.size ∨ k = w.heap.size + 1) w5 w6 := by (rw [← qw6]; (repeat (with_reducible refine Step.set ?_ ?_ _)); (with_reducible exact Step.refl _ _); all_goals exact .inl (by simp))
  have l5 := s5.size
  have o6 := o5.flat flat_int (Y := fun _ => True) sw6 (fun b hb q => by have := o3.pb b hb; omega)
  have m6 := (o3.mo.flat flat_entry (Y := fun _ => True) s5 (fun b hb q => by subst q; exact o3.ne b hgo hb)).flat flat_entry (Y := fun _ => True) sw6 (fun b hb q => by have := o3.mb b hb; omega)
  have hx2 : (n1.pages[i]?).getD 0 = x := by rw [hx]; rfl
  refine ⟨_, _, ⟨⟨rfl, rfl⟩, ?_⟩, ⟨⟨o6, m6, o3.ne⟩, fun b hb => ?_, fun b hb => ?_⟩, ?_⟩
  · rw [List.getElem?_eq_getElem hi2] at hx
    exact (Option.some.inj hx).symm
  · have := o3.pb b hb; omega
  · have := o3.mb b hb; omega
  · exact kk _ (((sw2.mono (fun k _ q => by omega : ∀ k, k < w1.heap.size → k = w.heap.size → w.heap.size ≤ k)).trans s5 (fun k _ q => by omega)).trans sw6 (fun k _ q => by omega))
def needW (k : Nat) : Int := if k = 0 then 0 else ((k - 1) / 8 : Nat) + 1
theorem words_Need (k : Nat) (hk : k < 2 ^ 62) (w : World) : Calls Tryz.prog 103 #[.int .i64 k] w fun e w' => e = .returned (.int .i64 (needW k)) ∧ w = w' := by
  refine calls_rx h103 Tryz.func103 rfl Tryz.mixed (by kernel_rfl) Tryz.results103 ?_
  unfold needW
  by_cases h : k = 0
  · subst h
    simp -dsimp [go_sem]
  · have h0 : ¬ (k : Int) < 1 := by omega
    have e1 : IntKind.i64.wrap ((k : Int) - 1) = (k : Int) - 1 := IntWalk.i64_in _ (by omega)
    have e2 : ((k : Int) - 1).tdiv 8 = (((k - 1) / 8 : Nat) : Int) := by rw [Int.tdiv_eq_ediv_of_nonneg (by omega)]; omega
    have e3 : IntKind.i64.wrap (((k - 1) / 8 : Nat) : Int) = (((k - 1) / 8 : Nat) : Int) := IntWalk.i64_in _ (by omega)
    have e4 : IntKind.i64.wrap ((((k - 1) / 8 : Nat) : Int) + 1) = (((k - 1) / 8 : Nat) : Int) + 1 := IntWalk.i64_in _ (by omega)
    generalize (k - 1) / 8 = q at e2 e3 e4
    simp -dsimp [go_sem, h0, h, e1, e2, e3, e4]
def sumW : List Entry → Int
  | [] => 0
  | x :: l => 2 + needW x.name.size + sumW l
theorem needW_le (k : Nat) : 0 ≤ needW k ∧ needW k ≤ k := by
  unfold needW
  split <;> omega
theorem sumW_append (l l' : List Entry) : sumW (l ++ l') = sumW l + sumW l' := by
  induction l with
  | nil => simp [sumW]
  | cons x l ih => simp [sumW, ih]; omega
theorem sumW_le : ∀ (l : List Entry), (∀ x ∈ l, x.name.size ≤ 2 ^ 20) → 0 ≤ sumW l ∧ sumW l ≤ l.length * 2 ^ 21
  | [], _ => by simp [sumW]
  | x :: l, h => by
    have h1 := sumW_le l (fun y hy => h y (by simp [hy]))
    have h2 := needW_le x.name.size
    have h3 := h x (by simp)
    simp only [sumW, List.length_cons]
    omega
def wordsN (n : Node) : Int := 7 + n.pages.length + sumW n.names
theorem inode_Words (X : Nat → Prop) (n : Node) (cs : List Value) (w : World) (h : rNode.R X w n cs) (hp : n.pages.length ≤ 2 ^ 20) (hn : n.names.length ≤ 2 ^ 20) (hb : ∀ x ∈ n.names, x.name.size ≤ 2 ^ 20) :
    Calls Tryz.prog 65 #[.agg cs.toArray] w fun e w' => e = .returned (.int .i64 (wordsN n)) ∧ Keep w w' := by
  have hh := h
  obtain ⟨d1, d2, rfl, h1, h2, hok⟩ := h
  obtain ⟨a1, c1, rfl, -⟩ := id h1
  obtain ⟨a2, c2, rfl, -⟩ := id h2
  refine calls_rx h65 Tryz.func65 rfl Tryz.mixed (by kernel_rfl) Tryz.results65 ?_
  unfold Node.enc
  simp -dsimp [go_sem]
  have e0 : IntKind.i64.wrap (7 + (n.pages.length : Int)) = 7 + n.pages.length := IntWalk.i64_in _ (by omega)
  generalize hW : w.alloc _ = W
  have k0 : Keep w W := by rw [← hW]; exact keep_alloc w _
  refine loop_intro (σ := Nat) (fun i => [.int .i64 (7 + n.pages.length + sumW (n.names.take i)), .int .i64 i]) (fun i w' => i ≤ n.names.length ∧ Keep w w') (fun i => n.names.length - i) 0 (by simp -dsimp [go_sem]; rfl) (by simp -dsimp [go_sem, e0, sumW]) ⟨by simp, k0⟩ ?_
  rintro i w1 ⟨hi, k1⟩
  have hsum := sumW_le (n.names.take i) (fun x hx => hb x (List.mem_of_mem_take hx))
  have hlt : ((n.names.take i).length : Int) ≤ 2 ^ 20 := by simp; omega
  generalize hS : sumW (n.names.take i) = S at hsum ⊢
  simp -dsimp [go_sem]
  refine condF_intro (fun g1 => ?_) (fun g1 => ?_)
  · simp at g1
    have hx : n.names[i]? = some n.names[i] := List.getElem?_eq_getElem _
    generalize n.names[i] = x at hx
    obtain ⟨b, off, c', e, hbl, -, hxo, hc0, hc1⟩ := (h2.keep k1).entry hx
    cases e
    have i2 : (i : Int) < n.names.length := by omega
    have hxs := hb x (List.mem_of_getElem? hx)
    simp -dsimp [go_sem, i2, hbl, hc0, hc1]
    refine (words_Need x.name.size (by omega) _).mono ?_; rintro _ w2 ⟨rfl, rfl⟩; refine ret_intro ?_
    have h2 := needW_le x.name.size
    have e1 : IntKind.i64.wrap (2 + needW x.name.size) = 2 + needW x.name.size := IntWalk.i64_in _ (by omega)
    have e2 : IntKind.i64.wrap (7 + n.pages.length + S + (2 + needW x.name.size)) = 7 + n.pages.length + S + (2 + needW x.name.size) := IntWalk.i64_in _ (by omega)
    have e3 : sumW (n.names.take (i + 1)) = S + (2 + needW x.name.size) := by rw [List.take_add_one, hx, sumW_append, hS]; simp [sumW]
    simp -dsimp [go_sem, e1]
    try simp -dsimp (disch := omega) only [IntWalk.i64_in, IntWalk.u64_in, IntWalk.u8_in]
    exact back_intro (i + 1) (by simp -dsimp [go_sem, e1, e2, e3]; omega) (by simp -dsimp [go_sem]) ⟨by omega, k1.alloc _⟩ (by omega)
  · simp at g1
    obtain rfl : i = n.names.length := by omega
    rw [List.take_length] at hS
    unfold wordsN
    simp -dsimp [go_sem, hS]
    exact k1
end Go.Proofs.YtdfjfagljngciaaGreat
