/- Package state: what a state is in memory; its nodes, one by one. Package state: directories, files, a new state. Package state: what changes a state: make. -/
import Derived.Test.YtdfjfagljngciaaGreatMap
import Derived.Test.YtdfjfagljngciaaGreatEfz
set_option linter.all false
set_option maxRecDepth 100000
set_option maxHeartbeats 4000000
namespace Go.Proofs.YtdfjfagljngciaaGreat
open Go.RowKit Rx

structure St where
  L : List Node
  last : Int
/-- A state: its block b, its map m. X: the blocks that somebody writes; no node's rows lie there. -/
structure StAt (w : World) (X : Nat → Prop) (b m : Nat) (s : St) : Prop where
  hb : w.heap[b]? = some (.cells #[.map (some m), .int .i64 s.last] 79 (0, 0))
  hm : MapN w X m s.L
  xb : X b
  xm : X m
  xl : ∀ k, X k → k < w.heap.size
theorem StAt.step {O X : Nat → Prop} {w w' : World} {b m : Nat} {s : St} (h : StAt w X b m s) (hs : Step O w w') (ho : ∀ k, O k → X k) (hb : ¬ O b) (hm : ¬ O m) : StAt w' X b m s :=
  ⟨hs.blk h.hb hb, h.hm.step hs ho hm, h.xb, h.xm, fun k q => Nat.lt_of_lt_of_le (h.xl k q) hs.size⟩
theorem StAt.keep {X : Nat → Prop} {w w' : World} {b m : Nat} {s : St} (h : StAt w X b m s) (hs : Keep w w') : StAt w' X b m s := h.step hs (fun _ q => q.elim) id id
theorem state_ok (X : Nat → Prop) (b m : Nat) (s : St) (w : World) (h : StAt w X b m s) : Calls Tryz.prog 37 #[.pointer (some ⟨b, 0, none⟩)] w fun e w' => e = .returned (.bool true) ∧ w = w' := by
  have E0 := h.hb
  have E0c := blk_cell E0; have E0f := blk_free E0; have E0l := blk_lt E0
  have q : ∀ w, (binOp .neq 77 (.map (some m)) (.map none)).run Tryz.prog w = .ok (.bool true) w := fun w => neq_map0 w (some m) Tryz.underlying77
  refine calls_rx h37 Tryz.func37 rfl Tryz.mixed (by kernel_rfl) Tryz.results37 ?_
  simp -dsimp [go_sem, E0c, E0f, E0l, q]
theorem state_ok_nil (w : World) : Calls Tryz.prog 37 #[.pointer none] w fun e w' => e = .returned (.bool false) ∧ w = w' := by
  refine calls_rx h37 Tryz.func37 rfl Tryz.mixed (by kernel_rfl) Tryz.results37 ?_
  simp -dsimp [go_sem]
theorem state_Get (X : Nat → Prop) (b m : Nat) (s : St) (hd : Inos s.L) (k : Int) (hp : ∀ n ∈ s.L, n.pages.length ≤ 2 ^ 20 ∧ n.names.length ≤ 2 ^ 20) (w : World) (h : StAt w X b m s) :
    Calls Tryz.prog 13 #[.pointer (some ⟨b, 0, none⟩), .int .i64 k] w fun e w' => ∃ p q, e = .returned (.tuple #[.agg (((getL s.L k).getD node0).enc p q).toArray, .bool (getL s.L k).isSome]) ∧ NNew w.heap.size w' ((getL s.L k).getD node0) p q ∧ Keep w w' := by
  have hn : ((getL s.L k).getD node0).pages.length ≤ 2 ^ 20 ∧ ((getL s.L k).getD node0).names.length ≤ 2 ^ 20 := by
    cases hg : getL s.L k with
    | none => simp [node0]
    | some n => exact hp n (getL_some hg).1
  refine calls_rx h13 Tryz.func13 rfl Tryz.mixed (by kernel_rfl) Tryz.results13 ?_
  simp -dsimp [go_sem]
  generalize hW : w.alloc _ = W
  obtain ⟨R0, k0, z0⟩ := alloc1 hW
  clear hW
  have h0 := h.keep k0
  refine (state_ok X b m s W h0).mono ?_; rintro _ w1 ⟨rfl, rfl⟩; refine ret_intro ?_
  have E0 := h0.hb
  have E0c := blk_cell E0; have E0f := blk_free E0; have E0l := blk_lt E0; have R0c := blk_cell R0; have R0f := blk_free R0; have R0l := blk_lt R0
  simp -dsimp [go_sem, E0c, E0f, E0l]
  obtain ⟨cs, hl, hr⟩ := h0.hm.look hd k
  refine look_intro hl ?_
  generalize (getL s.L k).getD node0 = n at hr hn ⊢
  generalize (getL s.L k).isSome = is
  have hrr := hr
  obtain ⟨d1, d2, rfl, h1, h2, hok⟩ := hrr
  obtain ⟨a1, c1, rfl, -⟩ := id h1
  obtain ⟨a2, c2, rfl, -⟩ := id h2
  unfold Node.enc
  simp -dsimp [go_sem]
  generalize hW : W.alloc _ = W2
  obtain ⟨R1, k1, z1⟩ := alloc1 hW
  clear hW
  replace R0 := Step.blk k1 R0 (fun q => q)
  refine (inode_Copy X n _ W2 (rNode.keep hr k1) (by omega) (by omega)).mono ?_; rintro _ w3 ⟨p, m', rfl, o1, k2⟩; refine ret_intro ?_
  replace R0 := Step.blk k2 R0 (fun q => q); replace R1 := Step.blk k2 R1 (fun q => q)
  clear R0c R0f R0l E0 E0c E0f E0l
  have R0c := blk_cell R0; have R0f := blk_free R0; have R0l := blk_lt R0; have R1c := blk_cell R1; have R1f := blk_free R1; have R1l := blk_lt R1
  obtain ⟨pa, pc, ma, mc, rfl, rfl, -⟩ := o1.slices
  unfold Node.enc
  simp -dsimp [go_sem, R0c, R0f, R0l, R1c, R1f, R1l]
  generalize qw4 : World.setCell _ _ _ = w4; have sw4 : Step (fun k => k = w.heap.size) w3 w4 := by (rw [← qw4]; (repeat (with_reducible refine Step.set ?_ ?_ _)); (with_reducible exact Step.refl _ _); all_goals exact .inl (by simp))
  refine ⟨_, _, ⟨rfl, rfl⟩, NNew.le (B := w.heap.size + 1) (NNew.step (NNew.le o1 (by omega)) sw4 (fun b hb q => by omega)) (by omega), Step.keep (Keep.trans (Keep.trans k0 k1) k2) sw4 (fun i q => by omega)⟩
end Go.Proofs.YtdfjfagljngciaaGreat

set_option linter.all false
set_option maxRecDepth 100000
set_option maxHeartbeats 4000000
namespace Go.Proofs.YtdfjfagljngciaaGreat
open Go.RowKit Rx Go.MapKept

theorem state_dir (X : Nat → Prop) (b m : Nat) (s : St) (hd : Inos s.L) (k : Int) (hp : ∀ n ∈ s.L, n.pages.length ≤ 2 ^ 20 ∧ n.names.length ≤ 2 ^ 20) (w : World) (h : StAt w X b m s) :
    Calls Tryz.prog 105 #[.pointer (some ⟨b, 0, none⟩), .int .i64 k] w fun e w' => ∃ p q, e = .returned (.tuple #[.agg (((getL s.L k).getD node0).enc p q).toArray, .bool ((getL s.L k).isSome && decide (((getL s.L k).getD node0).kind = 2))]) ∧ NNew w.heap.size w' ((getL s.L k).getD node0) p q ∧ Keep w w' := by
  refine calls_rx h105 Tryz.func105 rfl Tryz.mixed (by kernel_rfl) Tryz.results105 ?_
  simp -dsimp [go_sem]
  generalize hW : w.alloc _ = W
  obtain ⟨R0, k0, z0⟩ := alloc1 hW
  clear hW
  have h0 := h.keep k0
  refine (state_Get X b m s hd k hp W h0).mono ?_; rintro _ w1 ⟨p, q, rfl, o1, k1⟩; refine ret_intro ?_
  replace R0 := Step.blk k1 R0 (fun q => q)
  generalize (getL s.L k).getD node0 = n at o1 ⊢
  generalize (getL s.L k).isSome = is
  obtain ⟨pa, pc, ma, mc, rfl, rfl, -⟩ := o1.slices
  unfold Node.enc
  simp -dsimp [go_sem]
  generalize hW : w1.alloc _ = W2
  obtain ⟨R1, k2, z2⟩ := alloc1 hW
  clear hW
  replace R0 := Step.blk k2 R0 (fun q => q)
  have z1 := k1.size
  refine blankF_intro (holed W2 w.heap.size) (holed_agree (fun _ _ _ => rfl)) ?_
  have hA : Agree (holed W2 w.heap.size) W2 := holed_agree (fun _ _ _ => rfl)
  have D1 := (holed_blk (w := W2) (b := w.heap.size) (by omega)).trans R1
  have R0c := blk_cell R0; have R0f := blk_free R0; have R0l := blk_lt R0; have D1c := blk_cell D1; have D1f := blk_free D1; have D1l := blk_lt D1
  have fin : ∀ w3, Step (fun k => k = w.heap.size) W2 w3 → NNew w.heap.size w3 n (.slice pa n.pages.length pc) (.slice ma n.names.length mc) ∧ Keep w w3 := fun w3 hs =>
    ⟨NNew.le (B := w.heap.size + 1) (NNew.step ((NNew.le o1 (by omega)).keep k2) hs (fun b hb q => by omega)) (by omega), Step.keep (Keep.trans (Keep.trans k0 k1) k2) hs (fun i q => by omega)⟩
  cases is
  · simp -dsimp [go_sem, R0c, R0f, R0l, D1c, D1f, D1l]
    exact ⟨(by (repeat (with_reducible first | exact hA | refine agree_drew ?_ | refine holed_set ?_ _ _))), _, _, ⟨rfl, rfl⟩, fin _ (by (repeat (with_reducible first | exact Step.refl _ _ | refine Step.drew ?_ | refine Step.set ?_ ?_ _)); all_goals (first | exact .inl rfl | exact .inl (by simp)))⟩
  · simp -dsimp [go_sem, R0c, R0f, R0l, D1c, D1f, D1l]
    exact ⟨(by (repeat (with_reducible first | exact hA | refine agree_drew ?_ | refine holed_set ?_ _ _))), _, _, ⟨rfl, rfl⟩, fin _ (by (repeat (with_reducible first | exact Step.refl _ _ | refine Step.drew ?_ | refine Step.set ?_ ?_ _)); all_goals (first | exact .inl rfl | exact .inl (by simp)))⟩
theorem state_file (X : Nat → Prop) (b m : Nat) (s : St) (hd : Inos s.L) (k : Int) (hp : ∀ n ∈ s.L, n.pages.length ≤ 2 ^ 20 ∧ n.names.length ≤ 2 ^ 20) (w : World) (h : StAt w X b m s) :
    Calls Tryz.prog 107 #[.pointer (some ⟨b, 0, none⟩), .int .i64 k] w fun e w' => ∃ p q, e = .returned (.tuple #[.agg (((getL s.L k).getD node0).enc p q).toArray, .bool ((getL s.L k).isSome && decide (((getL s.L k).getD node0).kind = 1))]) ∧ NNew w.heap.size w' ((getL s.L k).getD node0) p q ∧ Keep w w' := by
  refine calls_rx h107 Tryz.func107 rfl Tryz.mixed (by kernel_rfl) Tryz.results107 ?_
  simp -dsimp [go_sem]
  generalize hW : w.alloc _ = W
  obtain ⟨R0, k0, z0⟩ := alloc1 hW
  clear hW
  have h0 := h.keep k0
  refine (state_Get X b m s hd k hp W h0).mono ?_; rintro _ w1 ⟨p, q, rfl, o1, k1⟩; refine ret_intro ?_
  replace R0 := Step.blk k1 R0 (fun q => q)
  generalize (getL s.L k).getD node0 = n at o1 ⊢
  generalize (getL s.L k).isSome = is
  obtain ⟨pa, pc, ma, mc, rfl, rfl, -⟩ := o1.slices
  unfold Node.enc
  simp -dsimp [go_sem]
  generalize hW : w1.alloc _ = W2
  obtain ⟨R1, k2, z2⟩ := alloc1 hW
  clear hW
  replace R0 := Step.blk k2 R0 (fun q => q)
  have z1 := k1.size
  refine blankF_intro (holed W2 w.heap.size) (holed_agree (fun _ _ _ => rfl)) ?_
  have hA : Agree (holed W2 w.heap.size) W2 := holed_agree (fun _ _ _ => rfl)
  have D1 := (holed_blk (w := W2) (b := w.heap.size) (by omega)).trans R1
  have R0c := blk_cell R0; have R0f := blk_free R0; have R0l := blk_lt R0; have D1c := blk_cell D1; have D1f := blk_free D1; have D1l := blk_lt D1
  have fin : ∀ w3, Step (fun k => k = w.heap.size) W2 w3 → NNew w.heap.size w3 n (.slice pa n.pages.length pc) (.slice ma n.names.length mc) ∧ Keep w w3 := fun w3 hs =>
    ⟨NNew.le (B := w.heap.size + 1) (NNew.step ((NNew.le o1 (by omega)).keep k2) hs (fun b hb q => by omega)) (by omega), Step.keep (Keep.trans (Keep.trans k0 k1) k2) hs (fun i q => by omega)⟩
  cases is
  · simp -dsimp [go_sem, R0c, R0f, R0l, D1c, D1f, D1l]
    exact ⟨(by (repeat (with_reducible first | exact hA | refine agree_drew ?_ | refine holed_set ?_ _ _))), _, _, ⟨rfl, rfl⟩, fin _ (by (repeat (with_reducible first | exact Step.refl _ _ | refine Step.drew ?_ | refine Step.set ?_ ?_ _)); all_goals (first | exact .inl rfl | exact .inl (by simp)))⟩
  · simp -dsimp [go_sem, R0c, R0f, R0l, D1c, D1f, D1l]
    exact ⟨(by (repeat (with_reducible first | exact hA | refine agree_drew ?_ | refine holed_set ?_ _ _))), _, _, ⟨rfl, rfl⟩, fin _ (by (repeat (with_reducible first | exact Step.refl _ _ | refine Step.drew ?_ | refine Step.set ?_ ?_ _)); all_goals (first | exact .inl rfl | exact .inl (by simp)))⟩
theorem alloc2 {w W : World} {A B : Obj} (h : (w.alloc A).alloc B = W) : W.heap[w.heap.size]? = some A ∧ W.heap[w.heap.size + 1]? = some B ∧ Keep w W ∧ W.heap.size = w.heap.size + 2 := by
  subst h
  refine ⟨blk_alloc (heap_alloc_new w A) B, ?_, ((Keep.refl w).alloc _).alloc _, by simp⟩
  have := heap_alloc_new (w.alloc A) B
  rwa [World.size_alloc] at this
def st0 : St := ⟨[⟨1, 2, 1, 0, 1, [], []⟩], 1⟩
theorem state_New (X : Nat → Prop) (w : World) (hX : ∀ k, X k → k < w.heap.size) : Calls Tryz.prog 28 #[] w fun e w' => ∃ b m, e = .returned (.pointer (some ⟨b, 0, none⟩)) ∧ StAt w' (fun k => X k ∨ k = b ∨ k = m) b m st0 ∧ Keep w w' ∧ w.heap.size ≤ b ∧ w.heap.size ≤ m := by
  refine calls_rx h28 Tryz.func28 rfl Tryz.mixed (by kernel_rfl) Tryz.results28 ?_
  simp -dsimp [go_sem]
  generalize hW : (w.alloc _).alloc _ = W
  obtain ⟨M0, E0, k0, z0⟩ := alloc2 hW
  clear hW
  refine (inode_New 1 2 1 W.drew).mono ?_; rintro _ w1 ⟨rfl, k1⟩; refine ret_intro ?_
  have k2 := Keep.trans (keep_drew W) k1
  have E0c := blk_cell E0; have E0f := blk_free E0; have E0l := blk_lt E0
  rw [if_pos rfl]
  have M1 : MapN w1 (fun k => X k ∨ k = w.heap.size + 1 ∨ k = w.heap.size) w.heap.size [] := ⟨#[], 0, k2.blk M0 (fun q => q), stamped_empty 0, by simp [Ents]⟩
  have r1 : rNode.R (fun k => X k ∨ k = w.heap.size + 1 ∨ k = w.heap.size) w1 ⟨1, 2, 1, 0, 1, [], []⟩ ((⟨1, 2, 1, 0, 1, [], []⟩ : Node).enc (.slice none 0 0) (.slice none 0 0)) :=
    ⟨_, _, rfl, (Ow.nil rInt 0 _ w1).sl (by simp [ownB]), (Ow.nil rEntry 0 _ w1).sl (by simp [ownB]), by unfold Node.ok I64; simp⟩
  obtain ⟨w2, hu, M2, s2⟩ := M1.upd (.inr (.inr rfl)) r1
  simp -dsimp [go_sem, E0c, E0f, E0l]
  refine ⟨Keep.agree k2 (Agree.refl _), upd_intro hu ?_⟩
  simp -dsimp [go_sem]
  have hb := s2.blk (k2.blk E0 (fun q => q)) (by omega)
  have l1 := k2.size
  have l2 := s2.size
  exact ⟨_, ⟨hb, M2, .inr (.inl rfl), .inr (.inr rfl), fun k q => by rcases q with q | q | q; have := hX k q; omega; omega; omega⟩, Step.keep (Keep.trans k0 k2) s2 (fun i q => by omega), by omega⟩
end Go.Proofs.YtdfjfagljngciaaGreat

set_option linter.all false
set_option maxRecDepth 100000
set_option maxHeartbeats 4000000
namespace Go.Proofs.YtdfjfagljngciaaGreat
open Go.RowKit Rx Go.MapKept

/-- What is asked of a state's nodes. -/
structure Fine (s : St) : Prop where
  d : Inos s.L
  sz : ∀ n ∈ s.L, n.pages.length ≤ 2 ^ 20 ∧ n.names.length ≤ 2 ^ 20
  li : I64 (s.last + 1)
  lk : ∀ n ∈ s.L, -1099511627776 ≤ n.links ∧ n.links ≤ 1099511627776
theorem StAt.okN {w : World} {X : Nat → Prop} {b m : Nat} {s : St} (h : StAt w X b m s) (k : Int) : ((getL s.L k).getD node0).ok := by
  cases hg : getL s.L k with
  | none => unfold Node.ok node0 I64; simp
  | some n =>
    obtain ⟨es, c, -, -, he⟩ := h.hm
    obtain ⟨x, -, -, cs, -, hr⟩ := he.2 n (getL_some hg).1
    obtain ⟨_, _, _, _, _, hok⟩ := hr
    exact hok
theorem Fine.szN {s : St} (h : Fine s) (k : Int) : ((getL s.L k).getD node0).pages.length ≤ 2 ^ 20 ∧ ((getL s.L k).getD node0).names.length ≤ 2 ^ 20 := by
  cases hg : getL s.L k with
  | none => simp [node0]
  | some n => exact h.sz n (getL_some hg).1
theorem StAt.size_b {w : World} {X : Nat → Prop} {b m : Nat} {s : St} (h : StAt w X b m s) : b < w.heap.size ∧ m < w.heap.size ∧ b ≠ m := by
  refine ⟨h.xl b h.xb, h.xl m h.xm, ?_⟩
  rintro rfl
  obtain ⟨es, c, h1, -⟩ := h.hm
  have := h.hb
  rw [h1] at this
  cases this
theorem MapN.updk {X : Nat → Prop} {w : World} {m : Nat} {L : List Node} (h : MapN w X m L) (hX : X m) {n : Node} {cs : List Value} (hr : rNode.R X w n cs) {k : Int} (hk : n.ino = k) :
    ∃ w', (Instr.mapUpdate 77 (.map (some m)) (.int .i64 k) (.agg cs.toArray)).run Tryz.prog w = .ok () w' ∧ MapN w' X m (setL L n) ∧ Step (fun k => k = m) w w' := hk ▸ h.upd hX hr
def newN (ino kind up : Int) : Node := ⟨ino, kind, 1, 0, if kind = 2 then up else 0, [], []⟩
def dirN (s : St) (k : Int) : Node := (getL s.L k).getD node0
def isDir (s : St) (k : Int) : Bool := (getL s.L k).isSome && decide ((dirN s k).kind = 2)
def isFile (s : St) (k : Int) : Bool := (getL s.L k).isSome && decide ((dirN s k).kind = 1)
def makeS (s : St) (e : Effect) : Option St :=
  let p := putE (dirN s e.dir).names e.name e.ino
  if isDir s e.dir = true ∧ p.2 = true ∧ e.ino = s.last + 1 then some ⟨setL (setL s.L { dirN s e.dir with names := p.1 }) (newN e.ino e.page e.dir), e.ino⟩ else none
theorem state_make (X : Nat → Prop) (b m : Nat) (s : St) (hf : Fine s) (e : Effect) (hok : e.ok) (a : Option Addr) (c : Nat) (w : World) (h : StAt w X b m s) :
    Calls Tryz.prog 71 #[.pointer (some ⟨b, 0, none⟩), .agg (e.enc (.slice a e.data.length c)).toArray] w fun r w' => r = .returned (.bool (makeS s e).isSome) ∧ StAt w' X b m ((makeS s e).getD s) ∧ Step (fun k => k = b ∨ k = m) w w' := by
  have hok' := hok
  obtain ⟨o1, o2, o3, o4, o5, o6⟩ := hok
  refine calls_rx h71 Tryz.func71 rfl Tryz.mixed (by kernel_rfl) Tryz.results71 ?_
  unfold Effect.enc
  simp -dsimp [go_sem]
  generalize hW : w.alloc _ = W
  obtain ⟨E0, k0, z0⟩ := alloc1 hW
  clear hW
  have h0 := h.keep k0
  refine (state_dir X b m s hf.d e.dir hf.sz W h0).mono ?_; rintro _ w1 ⟨p, q, rfl, n1, k1⟩; refine ret_intro ?_
  have h1 := h0.keep k1
  have dok := h1.okN e.dir
  have dsz := hf.szN e.dir
  unfold makeS isDir
  simp only [show (getL s.L e.dir).getD node0 = dirN s e.dir from rfl] at n1 dok dsz ⊢
  generalize hD : dirN s e.dir = d at n1 dok dsz ⊢
  generalize hI : (getL s.L e.dir).isSome = is
  obtain ⟨pa, pc, ma, mc, rfl, rfl, -⟩ := n1.slices
  unfold Node.enc
  simp -dsimp [go_sem]
  generalize hW : w1.alloc _ = W2
  obtain ⟨R0, k2, z2⟩ := alloc1 hW
  clear hW
  have n2 := n1.keep k2
  have h2 := h1.keep k2
  have E2 := (Keep.trans k1 k2).blk E0 (fun q => q)
  have R0c := blk_cell R0; have R0f := blk_free R0; have R0l := blk_lt R0; have E2c := blk_cell E2; have E2f := blk_free E2; have E2l := blk_lt E2
  simp -dsimp [go_sem, R0c, R0f, R0l, E2c, E2f, E2l]
  refine (dirs_Put (fun _ => False) _ d.names e.name e.ino o2 W2 ((n2.mo.all flat_entry).sl (fun _ _ q => q)) (by omega)).mono ?_; rintro _ w3 ⟨v, rfl, o3v, k3, b3⟩; refine ret_intro ?_
  generalize putE d.names e.name e.ino = P at o3v ⊢
  obtain ⟨P1, P2⟩ := P
  have h3 := h2.keep k3
  have n3 := n2.keep k3
  have H0 := h3.hb
  replace R0 := Step.blk k3 R0 (fun q => q); replace E2 := Step.blk k3 E2 (fun q => q)
  clear R0c R0f R0l E2c E2f E2l
  have R0c := blk_cell R0; have R0f := blk_free R0; have R0l := blk_lt R0; have E2c := blk_cell E2; have E2f := blk_free E2; have E2l := blk_lt E2; have H0c := blk_cell H0; have H0f := blk_free H0; have H0l := blk_lt H0
  have kw := Keep.trans k0 (Keep.trans k1 (Keep.trans k2 k3))
  have e1 : IntKind.i64.wrap (s.last + 1) = s.last + 1 := IntWalk.i64_in _ hf.li
  have no : ∀ w', Keep w3 w' → StAt w' X b m s ∧ Step (fun k => k = b ∨ k = m) w w' := fun w' k => ⟨h3.keep k, (Keep.trans kw k).any⟩
  obtain ⟨va, vc, rfl, -⟩ := o3v.slice
  simp only at o3v b3 ⊢
  generalize hq : (is && decide (d.kind = 2)) = ok1
  cases ok1
  · simp -dsimp [go_sem, R0c, R0f, R0l, E2c, E2f, E2l]
    exact no _ (keep_drew w3)
  cases P2
  · simp -dsimp [go_sem, R0c, R0f, R0l, E2c, E2f, E2l]
    exact no _ (keep_drew w3)
  by_cases g3 : e.ino = s.last + 1
  rotate_left
  · simp -dsimp [go_sem, R0c, R0f, R0l, E2c, E2f, E2l, H0c, H0f, H0l, e1, g3]
    exact no _ (keep_drew w3)
  simp -dsimp [go_sem, R0c, R0f, R0l, E2c, E2f, E2l, H0c, H0f, H0l, e1, g3]
  generalize hq4 : (World.setCell _ _ _).drew.drew = w4
  have s4 : Step (fun k => k = w1.heap.size) w3 w4 := by rw [← hq4]; exact ((Step.refl (fun k => k = w1.heap.size) w3).set (.inl rfl) _).drew.drew
  clear hq4
  have z1 := k1.size
  have z3 := k3.size
  have kw4 : Keep w w4 := Step.keep kw s4 (fun i q => by omega)
  have h4 := h.keep kw4
  have hdi : d.ino = e.dir := by
    subst hI hD
    unfold dirN
    cases hg : getL s.L e.dir with
    | none => rw [hg] at hq; simp at hq
    | some n => exact (getL_some hg).2
  have N4 : NNew w.heap.size w4 { d with names := P1 } (.slice pa d.pages.length pc) (.slice va P1.length vc) := by
    refine ⟨⟨n3.po.flat flat_int s4 (fun g hg q => ?_), o3v.flat flat_entry s4 (fun g hg q => ?_), fun g hg hg2 => ?_⟩, fun g hg => ?_, fun g hg => ?_⟩
    · have := n1.po.lt hg; omega
    · have := b3 g hg; omega
    · have := n2.po.lt hg; have := b3 g hg2; omega
    · have := n3.pb g hg; omega
    · have := b3 g hg; omega
  have r4 := N4.rep (X := X) (by exact dok) (fun g _ hx => h.xl g hx)
  obtain ⟨w5, hu, M5, s5⟩ := h4.hm.updk h4.xm r4 hdi
  refine upd_intro hu ?_
  have hbm := h4.size_b
  have H5 := s5.blk h4.hb (by omega)
  have E5 := s5.blk (s4.blk E2 (by omega)) (by have := h.size_b; omega)
  clear R0c R0f R0l E2c E2f E2l H0c H0f H0l
  have E5c := blk_cell E5; have E5f := blk_free E5; have E5l := blk_lt E5; have H5c := blk_cell H5; have H5f := blk_free H5; have H5l := blk_lt H5
  simp -dsimp [go_sem, E5c, E5f, E5l, H5c, H5f, H5l]
  refine (inode_New e.ino e.page e.dir w5.drew).mono ?_; rintro _ w6 ⟨rfl, k6⟩; refine ret_intro ?_
  have k56 := Keep.trans (keep_drew w5) k6
  have M6 := M5.keep k56
  have r6 : rNode.R X w6 (newN e.ino e.page e.dir) ((newN e.ino e.page e.dir).enc (.slice none 0 0) (.slice none 0 0)) :=
    ⟨_, _, rfl, (Ow.nil rInt 0 _ w6).sl (by simp [ownB]), (Ow.nil rEntry 0 _ w6).sl (by simp [ownB]), o2, o5, by unfold newN I64; simp, by unfold newN I64; simp, by unfold newN; simp only; split; exact o3; (unfold I64; simp)⟩
  obtain ⟨w7, hu7, M7, s7⟩ := M6.updk h4.xm r6 (k := e.ino) rfl
  simp -dsimp [go_sem, E5c, E5f, E5l, H5c, H5f, H5l]
  refine ⟨Keep.agree k56 (Agree.refl _), upd_intro hu7 ?_⟩
  have H7 := s7.blk (k56.blk H5 (fun q => q)) (by omega)
  have E7 := s7.blk (k56.blk E5 (fun q => q)) (by have := h.size_b; omega)
  clear E5c E5f E5l H5c H5f H5l
  have E7c := blk_cell E7; have E7f := blk_free E7; have E7l := blk_lt E7; have H7c := blk_cell H7; have H7f := blk_free H7; have H7l := blk_lt H7
  simp -dsimp [go_sem, E7c, E7f, E7l, H7c, H7f, H7l]
  rw [if_pos g3]
  have sO : Step (fun k => k = b ∨ k = m) w w7 := (((kw4.any (O := fun k => k = b ∨ k = m)).trans s5 (fun i _ q => .inr q)).then k56).trans s7 (fun i _ q => .inr q)
  have l7 := sO.size
  refine ⟨g3, ⟨blk_eq (blk_set H7 1 _) (by first | rfl | simp), M7.step ((Step.refl (fun k => k = b) w7).set (.inl rfl) _) (fun k q => q ▸ h.xb) (by omega), h.xb, h.xm, fun k q => ?_⟩, sO.set (.inl (.inl rfl)) _⟩
  have := h.xl k q
  simp [World.setCell]
  omega
end Go.Proofs.YtdfjfagljngciaaGreat
