/- Package state: what changes a state: trunc, write, drop. Package state: what changes a state: a name is taken away. Package state: remove, link. -/
import Derived.Test.YtdfjfagljngciaaGreatSta
set_option linter.all false
set_option maxRecDepth 100000
set_option maxHeartbeats 4000000
namespace Go.Proofs.YtdfjfagljngciaaGreat
open Go.RowKit Rx Go.MapKept

theorem StAt.upd {w : World} {X : Nat → Prop} {b m : Nat} {s : St} (h : StAt w X b m s) {n : Node} {cs : List Value} (hr : rNode.R X w n cs) {k : Int} (hk : n.ino = k) :
    ∃ w', (Instr.mapUpdate 77 (.map (some m)) (.int .i64 k) (.agg cs.toArray)).run Tryz.prog w = .ok () w' ∧ StAt w' X b m ⟨setL s.L n, s.last⟩ ∧ Step (fun k => k = m) w w' := by
  obtain ⟨w', h1, h2, h3⟩ := h.hm.updk h.xm hr hk
  exact ⟨w', h1, ⟨h3.blk h.hb h.size_b.2.2, h2, h.xb, h.xm, fun k q => Nat.lt_of_lt_of_le (h.xl k q) h3.size⟩, h3⟩
theorem StAt.del {w : World} {X : Nat → Prop} {b m : Nat} {s : St} (h : StAt w X b m s) (k : Int) (ty : TypeId) :
    ∃ w', (Builtin.delete_ #[77, 3] ty #[.map (some m), .int .i64 k]).run Tryz.prog w = .ok (.tuple #[]) w' ∧ StAt w' X b m ⟨delL s.L k, s.last⟩ ∧ Step (fun k => k = m) w w' := by
  obtain ⟨w', h1, h2, h3⟩ := h.hm.del h.xm k ty
  exact ⟨w', h1, ⟨h3.blk h.hb h.size_b.2.2, h2, h.xb, h.xm, fun k q => Nat.lt_of_lt_of_le (h.xl k q) h3.size⟩, h3⟩
theorem dirN_ino {s : St} {k : Int} {q : Bool} (h : ((getL s.L k).isSome && q) = true) : (dirN s k).ino = k := by
  unfold dirN
  cases hg : getL s.L k with
  | none => rw [hg] at h; simp at h
  | some n => exact (getL_some hg).2
theorem store_node {w : World} {r : Nat} {x0 x1 x2 x3 x4 x5 x6 : Value} (h : w.heap[r]? = some (.cells #[x0, x1, x2, x3, x4, x5, x6] 42 (0, 0))) (n : Node) (a : Option Addr) (l c : Nat) (a' : Option Addr) (l' c' : Nat) :
    ∃ w', (Instr.storeAt 42 (.pointer (some ⟨r, 0, none⟩)) (.agg (n.enc (.slice a l c) (.slice a' l' c')).toArray)).run Tryz.prog w = .ok () w' ∧ w'.heap[r]? = some (.cells (n.enc (.slice a l c) (.slice a' l' c')).toArray 42 (0, 0)) ∧ Step (fun k => k = r) w w' := by
  have hc := blk_cell h
  have hf := blk_free h
  have hl := blk_lt h
  unfold Node.enc
  refine ⟨_, by simp [go_sem, hc, hf, hl]; rfl, ?_, (by (repeat (with_reducible first | exact Step.refl _ _ | refine Step.drew ?_ | refine Step.set ?_ ?_ _)); all_goals (first | exact .inl rfl | exact .inl (by simp)))⟩
  refine blk_eq (blk_set (blk_set (blk_set (blk_set (blk_set (blk_set (blk_set h 0 _) 1 _) 2 _) 3 _) 4 _) 5 _) 6 _) ?_
  simp
/-- What a change of a state hands back. -/
def Did (w : World) (X : Nat → Prop) (b m : Nat) (s : St) (R : Option (St × List Int)) (r : Ending) (w' : World) : Prop :=
  ∃ g, r = .returned (.tuple #[g, .bool R.isSome]) ∧ Ow rInt 3 (fun _ => True) w' g (R.elim [] (·.2)) ∧ StAt w' X b m (R.elim s (·.1)) ∧ Step (fun k => k = b ∨ k = m) w w' ∧ ∀ c, ownB g = some c → w.heap.size ≤ c
def truncS (s : St) (e : Effect) : Option (St × List Int) :=
  if isFile s e.ino = true then some (⟨setL s.L (resizeN (dirN s e.ino) e.size).1, s.last⟩, (resizeN (dirN s e.ino) e.size).2) else none
theorem resizeN_ino (n : Node) (size : Int) : (resizeN n size).1.ino = n.ino := by
  unfold resizeN
  simp only
  repeat' split
  all_goals rfl
theorem state_trunc (X : Nat → Prop) (b m : Nat) (s : St) (hf : Fine s) (e : Effect) (hok : e.ok) (a : Option Addr) (c : Nat) (w : World) (h : StAt w X b m s) :
    Calls Tryz.prog 75 #[.pointer (some ⟨b, 0, none⟩), .agg (e.enc (.slice a e.data.length c)).toArray] w (Did w X b m s (truncS s e)) := by
  have hok' := hok
  obtain ⟨o1, o2, o3, o4, o5, o6⟩ := hok
  refine calls_rx h75 Tryz.func75 rfl Tryz.mixed (by kernel_rfl) Tryz.results75 ?_
  unfold Effect.enc
  simp -dsimp [go_sem]
  generalize hW : w.alloc _ = W
  obtain ⟨E0, k0, z0⟩ := alloc1 hW
  clear hW
  have h0 := h.keep k0
  refine (state_file X b m s hf.d e.ino hf.sz W h0).mono ?_; rintro _ w1 ⟨p, q, rfl, n1, k1⟩; refine ret_intro ?_
  have h1 := h0.keep k1
  have dok := h1.okN e.ino
  have dsz := hf.szN e.ino
  unfold truncS isFile
  simp only [show (getL s.L e.ino).getD node0 = dirN s e.ino from rfl] at n1 dok dsz ⊢
  generalize hD : dirN s e.ino = d at n1 dok dsz ⊢
  generalize hI : (getL s.L e.ino).isSome = is
  obtain ⟨pa, pc, ma, mc, rfl, rfl, -⟩ := n1.slices
  generalize hq : (is && decide (d.kind = 1)) = ok1
  unfold Node.enc
  simp -dsimp [go_sem]
  generalize hW : w1.alloc _ = W2
  obtain ⟨R0, k2, z2⟩ := alloc1 hW
  clear hW
  have n2 := n1.keep k2
  have E2 := (Keep.trans k1 k2).blk E0 (fun q => q)
  have R0c := blk_cell R0; have R0f := blk_free R0; have R0l := blk_lt R0; have E2c := blk_cell E2; have E2f := blk_free E2; have E2l := blk_lt E2
  have kw := Keep.trans k0 (Keep.trans k1 k2)
  cases ok1
  · simp -dsimp [go_sem, R0c, R0f, R0l, E2c, E2f, E2l]
    exact ⟨_, rfl, Ow.nil _ _ _ _, h.keep kw, kw.any, by simp [ownB]⟩
  have hdi : d.ino = e.ino := by subst hD hI; exact dirN_ino hq
  have r2 : rNode.R (fun _ => False) W2 d (d.enc (.slice pa d.pages.length pc) (.slice ma d.names.length mc)) := n2.rep dok (fun _ _ q => q.elim)
  simp -dsimp [go_sem, R0c, R0f, R0l, E2c, E2f, E2l]
  refine (inode_Resize (fun _ => False) d _ e.size o6 W2 r2 (by omega) (by omega)).mono ?_; rintro _ w3 ⟨p3, m3, g, rfl, n3, og, k3, bg⟩; refine ret_intro ?_
  have hdi3 := (resizeN_ino d e.size).trans hdi
  have dok3 := resizeN_ok dok o6
  generalize resizeN d e.size = D at n3 og hdi3 dok3 ⊢
  obtain ⟨dn, gone⟩ := D
  simp only at n3 og hdi3 dok3 ⊢
  obtain ⟨pa3, pc3, ma3, mc3, rfl, rfl, -⟩ := n3.slices
  obtain ⟨ga, gc, rfl, -⟩ := og.slice
  obtain ⟨w4, hst, R4, s4⟩ := store_node (k3.blk R0 (fun q => q)) dn pa3 dn.pages.length pc3 ma3 dn.names.length mc3
  replace R0 := Step.blk k3 R0 (fun q => q); replace E2 := Step.blk k3 E2 (fun q => q)
  clear R0c R0f R0l E2c E2f E2l
  have z1 := k1.size
  have kw4 : Keep w w4 := Step.keep (Keep.trans kw k3) s4 (fun i q => by omega)
  have h4 := h.keep kw4
  have H4 := h4.hb
  have E4 := s4.blk E2 (by omega)
  unfold Node.enc at hst R4 ⊢
  have R0c := blk_cell R0; have R0f := blk_free R0; have R0l := blk_lt R0; have E2c := blk_cell E2; have E2f := blk_free E2; have E2l := blk_lt E2; have E4c := blk_cell E4; have E4f := blk_free E4; have E4l := blk_lt E4; have H4c := blk_cell H4; have H4f := blk_free H4; have H4l := blk_lt H4; have R4c := blk_cell R4; have R4f := blk_free R4; have R4l := blk_lt R4
  simp -dsimp [go_sem, R0c, R0f, R0l, E2c, E2f, E2l, E4c, E4f, E4l, H4c, H4f, H4l, R4c, R4f, R4l, storeF_of hst]
  have z3 := k3.size
  have hsb := h.size_b
  have r4 := ((NNew.step n3 s4 (fun b hb q => by omega)).le (B' := w.heap.size) (by omega)).rep (X := X) dok3 (fun g _ hx => h.xl g hx)
  obtain ⟨w5, hu, h5, s5⟩ := (h4.keep (keep_drew w4)).upd (rNode.keep r4 (keep_drew w4)) hdi3
  refine upd_intro hu ?_
  simp -dsimp [go_sem]
  have s35 : Step (fun k => k = w1.heap.size ∨ k = m) w3 w5 := ((s4.mono (fun k _ q => .inl q : ∀ k, k < w3.heap.size → k = w1.heap.size → k = w1.heap.size ∨ k = m)).then (keep_drew w4)).trans s5 (fun i _ q => .inr q)
  refine ⟨_, rfl, og.flat flat_int s35 (fun g hg q => ?_), h5, ((kw4.any (O := fun k => k = b ∨ k = m)).then (keep_drew w4)).trans s5 (fun i _ q => .inr q), fun g hg => ?_⟩
  · have := bg g hg; omega
  · have := bg g hg; omega
def writeS (s : St) (e : Effect) (ref : Int) : Option (St × List Int) :=
  if isFile s e.ino = true ∧ ¬ e.size < (dirN s e.ino).size then some (⟨setL s.L (putN (dirN s e.ino) e.page.toNat ref e.size).1, s.last⟩, if (putN (dirN s e.ino) e.page.toNat ref e.size).2 = 0 then [] else [(putN (dirN s e.ino) e.page.toNat ref e.size).2]) else none
theorem Ow.one_int (w : World) (x : Int) (hx : I64 x) : Ow rInt 3 (fun _ => True) (w.alloc (.cells #[.int .i64 x] 3)) (.slice (some ⟨w.heap.size, 0, none⟩) 1 1) [x] :=
  .inr ⟨[.int .i64 x], ⟨rfl, .inr ⟨w.heap.size, 0, 1, #[.int .i64 x], rfl, heap_alloc_new w _, Nat.le_refl _, by decide, (by show 0 + 1 * 1 ≤ 1; omega), rfl⟩⟩, one_int_cs x hx _ _⟩
theorem putN_i64 {X : Nat → Prop} {w : World} {p : Value} {d : Node} (h : Sl rInt X w p d.pages) (i : Nat) (ref size : Int) : I64 (putN d i ref size).2 := by
  have h0 : ∀ x ∈ d.pages, I64 x := fun x hx => by
    obtain ⟨k, hk⟩ := List.mem_iff_getElem?.1 hx
    obtain ⟨_, _, _, _, _, _, _, q⟩ := h.int hk
    exact q
  have z0 : I64 0 := ⟨by decide, by decide⟩
  unfold putN
  simp only
  have hm : ∀ x ∈ (resizeN d size).1.pages, I64 x := by
    unfold resizeN
    simp only
    repeat' split
    · exact h0
    · exact fun x hx => h0 x (List.mem_of_mem_take hx)
    · intro x hx
      rcases List.mem_append.1 hx with q | q
      · exact h0 x q
      · rw [List.eq_of_mem_replicate q]; exact z0
  cases hg : (resizeN d size).1.pages[i]? with
  | none => exact z0
  | some x => exact hm x (List.mem_of_getElem? hg)
theorem state_write (X : Nat → Prop) (b m : Nat) (s : St) (hf : Fine s) (e : Effect) (hok : e.ok) (ref : Int) (hr : I64 ref) (hp0 : 0 ≤ e.page) (hp1 : e.page * 256 < e.size) (hp2 : e.size ≤ 16384) (a : Option Addr) (c : Nat) (w : World) (h : StAt w X b m s) :
    Calls Tryz.prog 76 #[.pointer (some ⟨b, 0, none⟩), .agg (e.enc (.slice a e.data.length c)).toArray, .int .i64 ref] w (Did w X b m s (writeS s e ref)) := by
  have hok' := hok
  obtain ⟨o1, o2, o3, o4, o5, o6⟩ := hok
  refine calls_rx h76 Tryz.func76 rfl Tryz.mixed (by kernel_rfl) Tryz.results76 ?_
  unfold Effect.enc
  simp -dsimp [go_sem]
  generalize hW : w.alloc _ = W
  obtain ⟨E0, k0, z0⟩ := alloc1 hW
  clear hW
  have h0 := h.keep k0
  refine (state_file X b m s hf.d e.ino hf.sz W h0).mono ?_; rintro _ w1 ⟨p, q, rfl, n1, k1⟩; refine ret_intro ?_
  have h1 := h0.keep k1
  have dok := h1.okN e.ino
  have dsz := hf.szN e.ino
  unfold writeS isFile
  simp only [show (getL s.L e.ino).getD node0 = dirN s e.ino from rfl] at n1 dok dsz ⊢
  generalize hD : dirN s e.ino = d at n1 dok dsz ⊢
  generalize hI : (getL s.L e.ino).isSome = is
  obtain ⟨pa, pc, ma, mc, rfl, rfl, -⟩ := n1.slices
  generalize hq : (is && decide (d.kind = 1)) = ok1
  unfold Node.enc
  simp -dsimp [go_sem]
  generalize hW : w1.alloc _ = W2
  obtain ⟨R0, k2, z2⟩ := alloc1 hW
  clear hW
  have n2 := n1.keep k2
  have E2 := (Keep.trans k1 k2).blk E0 (fun q => q)
  have R0c := blk_cell R0; have R0f := blk_free R0; have R0l := blk_lt R0; have E2c := blk_cell E2; have E2f := blk_free E2; have E2l := blk_lt E2
  have kw := Keep.trans k0 (Keep.trans k1 k2)
  cases ok1
  · simp -dsimp [go_sem, R0c, R0f, R0l, E2c, E2f, E2l]
    exact ⟨_, rfl, Ow.nil _ _ _ _, h.keep kw, kw.any, by simp [ownB]⟩
  by_cases g2 : e.size < d.size
  · simp -dsimp [go_sem, R0c, R0f, R0l, E2c, E2f, E2l, g2]
    exact ⟨_, rfl, Ow.nil _ _ _ _, h.keep kw, kw.any, by simp [ownB]⟩
  have hdi : d.ino = e.ino := by subst hD hI; exact dirN_ino hq
  have r2 : rNode.R (fun _ => False) W2 d (d.enc (.slice pa d.pages.length pc) (.slice ma d.names.length mc)) := n2.rep dok (fun _ _ q => q.elim)
  obtain ⟨i, hi⟩ := Int.eq_ofNat_of_zero_le hp0
  have hin : (i : Int) < needI e.size := by unfold needI; split <;> omega
  rw [hi] at E0 E2 E2c hp0 hp1 ⊢
  simp -dsimp [go_sem, R0c, R0f, R0l, E2c, E2f, E2l, g2]
  refine (inode_Put (fun _ => False) d _ i ref e.size hr (by omega) hp2 hin W2 r2 (by omega) (by omega)).mono ?_; rintro _ w3 ⟨p3, m3, rfl, n3, k3⟩; refine ret_intro ?_
  have hdi3 : (putN d i ref e.size).1.ino = e.ino := (resizeN_ino d e.size).trans hdi
  have dok3 : (putN d i ref e.size).1.ok := resizeN_ok dok o6
  have hx64 : I64 (putN d i ref e.size).2 := putN_i64 ((n2.po.all flat_int (Y := fun _ => False)).sl (fun _ _ q => q)) i ref e.size
  rw [show (i : Int).toNat = i from rfl]
  generalize putN d i ref e.size = D at n3 hdi3 dok3 hx64 ⊢
  obtain ⟨dn, old⟩ := D
  simp only at n3 hdi3 dok3 hx64 ⊢
  obtain ⟨pa3, pc3, ma3, mc3, rfl, rfl, -⟩ := n3.slices
  obtain ⟨w4, hst, R4, s4⟩ := store_node (k3.blk R0 (fun q => q)) dn pa3 dn.pages.length pc3 ma3 dn.names.length mc3
  replace R0 := Step.blk k3 R0 (fun q => q); replace E2 := Step.blk k3 E2 (fun q => q)
  clear R0c R0f R0l E2c E2f E2l
  have z1 := k1.size
  have kw4 : Keep w w4 := Step.keep (Keep.trans kw k3) s4 (fun i q => by omega)
  have h4 := h.keep kw4
  have H4 := h4.hb
  have E4 := s4.blk E2 (by omega)
  unfold Node.enc at hst R4 ⊢
  have R0c := blk_cell R0; have R0f := blk_free R0; have R0l := blk_lt R0; have E2c := blk_cell E2; have E2f := blk_free E2; have E2l := blk_lt E2; have E4c := blk_cell E4; have E4f := blk_free E4; have E4l := blk_lt E4; have H4c := blk_cell H4; have H4f := blk_free H4; have H4l := blk_lt H4; have R4c := blk_cell R4; have R4f := blk_free R4; have R4l := blk_lt R4
  simp -dsimp [go_sem, R0c, R0f, R0l, E2c, E2f, E2l, E4c, E4f, E4l, H4c, H4f, H4l, R4c, R4f, R4l, storeF_of hst]
  have z3 := k3.size
  have hsb := h.size_b
  have r4 := ((NNew.step n3 s4 (fun b hb q => by omega)).le (B' := w.heap.size) (by omega)).rep (X := X) dok3 (fun g _ hx => h.xl g hx)
  obtain ⟨w5, hu, h5, s5⟩ := (h4.keep (keep_drew w4)).upd (rNode.keep r4 (keep_drew w4)) hdi3
  refine upd_intro hu ?_
  have sO : Step (fun k => k = b ∨ k = m) w w5 := ((kw4.any (O := fun k => k = b ∨ k = m)).then (keep_drew w4)).trans s5 (fun i _ q => .inr q)
  have l5 := sO.size
  rw [if_pos (show (true = true ∧ ¬ e.size < d.size) from ⟨rfl, g2⟩)]
  by_cases g5 : old = 0
  · simp -dsimp [go_sem, g5]
    exact ⟨_, rfl, Ow.nil _ _ _ _, h5, sO, by simp [ownB]⟩
  · simp -dsimp [go_sem, g5]
    refine ⟨_, rfl, Ow.one_int w5 old hx64, h5.keep (keep_alloc w5 _), sO.alloc _, fun g hg => ?_⟩
    simp [ownB] at hg
    omega
def dropS (s : St) (e : Effect) : Option (St × List Int) :=
  if isFile s e.ino = true ∧ ¬ 0 < (dirN s e.ino).links then some (⟨delL s.L e.ino, s.last⟩, (dirN s e.ino).pages.filter (fun x => !decide (x = 0))) else none
theorem state_drop (X : Nat → Prop) (b m : Nat) (s : St) (hf : Fine s) (e : Effect) (hok : e.ok) (a : Option Addr) (c : Nat) (w : World) (h : StAt w X b m s) :
    Calls Tryz.prog 77 #[.pointer (some ⟨b, 0, none⟩), .agg (e.enc (.slice a e.data.length c)).toArray] w (Did w X b m s (dropS s e)) := by
  have hok' := hok
  obtain ⟨o1, o2, o3, o4, o5, o6⟩ := hok
  refine calls_rx h77 Tryz.func77 rfl Tryz.mixed (by kernel_rfl) Tryz.results77 ?_
  unfold Effect.enc
  simp -dsimp [go_sem]
  generalize hW : w.alloc _ = W
  obtain ⟨E0, k0, z0⟩ := alloc1 hW
  clear hW
  have h0 := h.keep k0
  refine (state_file X b m s hf.d e.ino hf.sz W h0).mono ?_; rintro _ w1 ⟨p, q, rfl, n1, k1⟩; refine ret_intro ?_
  have h1 := h0.keep k1
  have dok := h1.okN e.ino
  have dsz := hf.szN e.ino
  unfold dropS isFile
  simp only [show (getL s.L e.ino).getD node0 = dirN s e.ino from rfl] at n1 dok dsz ⊢
  generalize hD : dirN s e.ino = d at n1 dok dsz ⊢
  generalize hI : (getL s.L e.ino).isSome = is
  obtain ⟨pa, pc, ma, mc, rfl, rfl, -⟩ := n1.slices
  generalize hq : (is && decide (d.kind = 1)) = ok1
  unfold Node.enc
  simp -dsimp [go_sem]
  generalize hW : w1.alloc _ = W2
  obtain ⟨R0, k2, z2⟩ := alloc1 hW
  clear hW
  have n2 := n1.keep k2
  have E2 := (Keep.trans k1 k2).blk E0 (fun q => q)
  have R0c := blk_cell R0; have R0f := blk_free R0; have R0l := blk_lt R0; have E2c := blk_cell E2; have E2f := blk_free E2; have E2l := blk_lt E2
  have kw := Keep.trans k0 (Keep.trans k1 k2)
  cases ok1
  · simp -dsimp [go_sem, R0c, R0f, R0l, E2c, E2f, E2l]
    exact ⟨_, rfl, Ow.nil _ _ _ _, h.keep kw, kw.any, by simp [ownB]⟩
  by_cases g2 : 0 < d.links
  · simp -dsimp [go_sem, R0c, R0f, R0l, E2c, E2f, E2l, g2]
    exact ⟨_, rfl, Ow.nil _ _ _ _, h.keep kw, kw.any, by simp [ownB]⟩
  have h2 := h.keep kw
  have H2 := h2.hb
  have H2c := blk_cell H2; have H2f := blk_free H2; have H2l := blk_lt H2
  simp -dsimp [go_sem, R0c, R0f, R0l, E2c, E2f, E2l, H2c, H2f, H2l, g2]
  obtain ⟨w5, hu, h5, s5⟩ := (h2.keep (keep_drew W2)).del e.ino 0
  refine del_intro hu ?_
  have hsb := h.size_b
  have z1 := k1.size
  have R5 := (Step.then (Step.refl (fun k => k = m) W2) (keep_drew W2)).trans s5 (fun i _ q => q)
  have n5 : NNew w.heap.size w5 d (.slice pa d.pages.length pc) (.slice ma d.names.length mc) := (n2.step R5 (fun g hg q => by omega)).le (by omega)
  have r5 : rNode.R (fun _ => False) w5 d (d.enc (.slice pa d.pages.length pc) (.slice ma d.names.length mc)) := n5.rep dok (fun _ _ q => q.elim)
  have B5 := R5.blk R0 (by omega)
  clear R0c R0f R0l
  have B5c := blk_cell B5; have B5f := blk_free B5; have B5l := blk_lt B5
  simp -dsimp [go_sem, B5c, B5f, B5l]
  refine (inode_Refs (fun _ => False) d _ w5 r5 (by omega)).mono ?_; rintro _ w6 ⟨g, rfl, og, k6, bg⟩; refine ret_intro ?_
  rw [if_pos (show (true = true ∧ ¬ 0 < d.links) from ⟨rfl, g2⟩)]
  obtain ⟨ga, gc, rfl, -⟩ := og.slice
  simp -dsimp [go_sem]
  have sO : Step (fun k => k = b ∨ k = m) w w5 := (kw.any (O := fun k => k = b ∨ k = m)).trans R5 (fun i _ q => .inr q)
  have l5 := sO.size
  refine ⟨_, rfl, og, h5.keep k6, sO.then k6, fun g hg => ?_⟩
  have := bg g hg; omega
end Go.Proofs.YtdfjfagljngciaaGreat

set_option linter.all false
set_option maxRecDepth 100000
set_option maxHeartbeats 4000000
namespace Go.Proofs.YtdfjfagljngciaaGreat
open Go.RowKit Rx Go.MapKept

def mayS (s : St) (dir : Int) (w : ByteArray) (ino kind : Int) : Bool :=
  isDir s dir && (findN (dirN s dir).names w).2 && decide ((findN (dirN s dir).names w).1 = ino) && (getL s.L ino).isSome && decide ((dirN s ino).kind = kind) && (decide (kind = 1) || (decide ((dirN s ino).names.length = 0) && !decide (ino = 1)))
theorem state_may (X : Nat → Prop) (b m : Nat) (s : St) (hf : Fine s) (dir : Int) (nm : ByteArray) (ino kind : Int) (w : World) (h : StAt w X b m s) :
    Calls Tryz.prog 108 #[.pointer (some ⟨b, 0, none⟩), .int .i64 dir, .string nm, .int .i64 ino, .int .i64 kind] w fun r w' => r = .returned (.bool (mayS s dir nm ino kind)) ∧ Keep w w' := by
  refine calls_rx h108 Tryz.func108 rfl Tryz.mixed (by kernel_rfl) Tryz.results108 ?_
  simp -dsimp [go_sem]
  refine (state_dir X b m s hf.d dir hf.sz w h).mono ?_; rintro _ w1 ⟨p, q, rfl, n1, k1⟩; refine ret_intro ?_
  have h1 := h.keep k1
  have dsz := hf.szN dir
  unfold mayS isDir
  simp only [show (getL s.L dir).getD node0 = dirN s dir from rfl] at n1 dsz ⊢
  generalize dirN s dir = d at n1 dsz ⊢
  obtain ⟨pa, pc, ma, mc, rfl, rfl, -⟩ := n1.slices
  generalize ((getL s.L dir).isSome && decide (d.kind = 2)) = ok1
  unfold Node.enc
  simp -dsimp [go_sem]
  generalize hW : w1.alloc _ = W2
  obtain ⟨R0, k2, z2⟩ := alloc1 hW
  clear hW
  have n2 := n1.keep k2
  have kw := Keep.trans k1 k2
  have R0c := blk_cell R0; have R0f := blk_free R0; have R0l := blk_lt R0
  try simp -dsimp [go_sem, R0c, R0f, R0l]
  refine (dirs_Find (fun _ => False) _ d.names nm W2 ((n2.mo.all flat_entry).sl (fun _ _ q => q)) (by omega)).mono ?_; rintro _ w3 ⟨rfl, k3⟩; refine ret_intro ?_
  generalize findN d.names nm = F
  obtain ⟨f1, f2⟩ := F
  simp only
  simp -dsimp [go_sem]
  have h3 := h.keep (Keep.trans kw k3)
  refine (state_Get X b m s hf.d ino hf.sz w3 h3).mono ?_; rintro _ w4 ⟨p4, q4, rfl, n4, k4⟩; refine ret_intro ?_
  simp only [show (getL s.L ino).getD node0 = dirN s ino from rfl] at n4 ⊢
  generalize dirN s ino = n at n4 ⊢
  generalize (getL s.L ino).isSome = is
  obtain ⟨pa4, pc4, ma4, mc4, rfl, rfl, -⟩ := n4.slices
  unfold Node.enc
  have kw4 := Keep.trans (Keep.trans kw k3) k4
  cases ok1
  · simp -dsimp [go_sem]
    exact (kw4.alloc _)
  cases f2
  · simp -dsimp [go_sem]
    exact (kw4.alloc _)
  by_cases g1 : f1 = ino
  rotate_left
  · simp -dsimp [go_sem, g1]
    exact (kw4.alloc _)
  cases is
  · simp -dsimp [go_sem, g1]
    exact (kw4.alloc _)
  by_cases g2 : n.kind = kind
  rotate_left
  · simp -dsimp [go_sem, g1, g2]
    exact (kw4.alloc _)
  by_cases g3 : kind = 1
  · simp -dsimp [go_sem, g1, g2, g3]
    exact (kw4.alloc _)
  · simp -dsimp [go_sem, g1, g2, g3]
    exact (kw4.alloc _)
theorem Fine.upd {s : St} (h : Fine s) {n : Node} (h1 : n.pages.length ≤ 2 ^ 20) (h2 : n.names.length ≤ 2 ^ 20) (h3 : -1099511627776 ≤ n.links ∧ n.links ≤ 1099511627776) : Fine ⟨setL s.L n, s.last⟩ :=
  ⟨inos_setL h.d n, fun x hx => by rcases mem_setL.1 hx with rfl | ⟨q, -⟩; exact ⟨h1, h2⟩; exact h.sz x q, h.li, fun x hx => by rcases mem_setL.1 hx with rfl | ⟨q, -⟩; exact h3; exact h.lk x q⟩
theorem Fine.lkN {s : St} (h : Fine s) (k : Int) : -1099511627776 ≤ ((getL s.L k).getD node0).links ∧ ((getL s.L k).getD node0).links ≤ 1099511627776 := by
  cases hg : getL s.L k with
  | none => simp [node0]
  | some n => exact h.lk n (getL_some hg).1
theorem getL_setL {L : List Node} {n : Node} {k : Int} (h : (getL L k).isSome = true) : (getL (setL L n) k).isSome = true := by
  obtain ⟨x, hx⟩ := Option.isSome_iff_exists.1 h
  obtain ⟨h1, rfl⟩ := getL_some hx
  by_cases q : x.ino = n.ino
  · unfold getL
    rw [List.find?_isSome]
    exact ⟨n, mem_setL.2 (.inl rfl), by simp [q]⟩
  · unfold getL
    rw [List.find?_isSome]
    exact ⟨x, mem_setL.2 (.inr ⟨h1, q⟩), by simp⟩
def offL (s : St) (dir : Int) (nm : ByteArray) : List Node := setL s.L { dirN s dir with names := (dropE (dirN s dir).names nm).1 }
def offS (s : St) (dir : Int) (nm : ByteArray) (ino : Int) : St :=
  if ((getL (offL s dir nm) ino).getD node0).kind = 2 then ⟨delL (offL s dir nm) ino, s.last⟩
  else ⟨setL (offL s dir nm) { (getL (offL s dir nm) ino).getD node0 with links := ((getL (offL s dir nm) ino).getD node0).links - 1 }, s.last⟩
theorem state_off (X : Nat → Prop) (b m : Nat) (s : St) (hf : Fine s) (dir : Int) (nm : ByteArray) (ino : Int) (hdir : isDir s dir = true) (hino : (getL s.L ino).isSome = true) (w : World) (h : StAt w X b m s) :
    Calls Tryz.prog 109 #[.pointer (some ⟨b, 0, none⟩), .int .i64 dir, .string nm, .int .i64 ino] w fun r w' => (∃ v, r = .returned v) ∧ StAt w' X b m (offS s dir nm ino) ∧ Step (fun k => k = b ∨ k = m) w w' := by
  refine calls_rx h109 Tryz.func109 rfl Tryz.mixed (by kernel_rfl) Tryz.results109 ?_
  simp -dsimp [go_sem]
  refine (state_dir X b m s hf.d dir hf.sz w h).mono ?_; rintro _ w1 ⟨p, q, rfl, n1, k1⟩; refine ret_intro ?_
  have h1 := h.keep k1
  have dsz := hf.szN dir
  have dlk := hf.lkN dir
  have dok := h.okN dir
  have hdi := dirN_ino hdir
  unfold offS offL
  simp only [show (getL s.L dir).getD node0 = dirN s dir from rfl] at n1 dsz dlk dok ⊢
  generalize dirN s dir = d at n1 dsz dlk dok hdi ⊢
  obtain ⟨pa, pc, ma, mc, rfl, rfl, -⟩ := n1.slices
  generalize ((getL s.L dir).isSome && decide (d.kind = 2)) = ok1
  unfold Node.enc
  simp -dsimp [go_sem]
  generalize hW : w1.alloc _ = W2
  obtain ⟨R0, k2, z2⟩ := alloc1 hW
  clear hW
  have n2 := n1.keep k2
  have kw := Keep.trans k1 k2
  have R0c := blk_cell R0; have R0f := blk_free R0; have R0l := blk_lt R0
  try simp -dsimp [go_sem, R0c, R0f, R0l]
  refine (dirs_Drop (fun _ => False) _ d.names nm W2 ((n2.mo.all flat_entry).sl (fun _ _ q => q)) (by omega)).mono ?_; rintro _ w3 ⟨v, rfl, ov, k3, bv⟩; refine ret_intro ?_
  have dle : (dropE d.names nm).1.length ≤ d.names.length := List.length_filter_le _ _
  generalize dropE d.names nm = D at ov dle ⊢
  obtain ⟨D1, D2⟩ := D
  simp only at ov dle ⊢
  have h3 := h.keep (Keep.trans kw k3)
  have H3 := h3.hb
  have n3 := n2.keep k3
  replace R0 := Step.blk k3 R0 (fun q => q)
  clear R0c R0f R0l
  have R0c := blk_cell R0; have R0f := blk_free R0; have R0l := blk_lt R0; have H3c := blk_cell H3; have H3f := blk_free H3; have H3l := blk_lt H3
  obtain ⟨va, vc, rfl, -⟩ := ov.slice
  simp -dsimp [go_sem, R0c, R0f, R0l, H3c, H3f, H3l]
  generalize hq4 : (World.setCell _ _ _).drew = w4
  have s4 : Step (fun k => k = w1.heap.size) w3 w4 := by rw [← hq4]; exact ((Step.refl (fun k => k = w1.heap.size) w3).set (.inl rfl) _).drew
  clear hq4
  have z1 := k1.size
  have z3 := k3.size
  have kw4 : Keep w w4 := Step.keep (Keep.trans kw k3) s4 (fun i q => by omega)
  have h4 := h.keep kw4
  have N4 : NNew w.heap.size w4 { d with names := D1 } (.slice pa d.pages.length pc) (.slice va D1.length vc) := by
    refine ⟨⟨n3.po.flat flat_int s4 (fun g hg q => ?_), ov.flat flat_entry s4 (fun g hg q => ?_), fun g hg hg2 => ?_⟩, fun g hg => ?_, fun g hg => ?_⟩
    · have := n1.po.lt hg; omega
    · have := bv g hg; omega
    · have := n2.po.lt hg; have := bv g hg2; omega
    · have := n3.pb g hg; omega
    · have := bv g hg; omega
  have r4 := N4.rep (X := X) (by exact dok) (fun g _ hx => h.xl g hx)
  obtain ⟨w5, hu, h5, s5⟩ := h4.upd r4 hdi
  refine upd_intro hu ?_
  simp -dsimp [go_sem]
  have f5 : Fine ⟨setL s.L { d with names := D1 }, s.last⟩ := hf.upd dsz.1 (Nat.le_trans dle dsz.2) dlk
  have hino5 : (getL (setL s.L { d with names := D1 }) ino).isSome = true := getL_setL hino
  have sO : Step (fun k => k = b ∨ k = m) w w5 := (kw4.any (O := fun k => k = b ∨ k = m)).trans s5 (fun i _ q => .inr q)
  generalize setL s.L { d with names := D1 } = L1 at h5 f5 hino5 ⊢
  refine (state_Get X b m ⟨L1, s.last⟩ f5.d ino f5.sz w5 h5).mono ?_; rintro _ w6 ⟨p6, q6, rfl, n6, k6⟩; refine ret_intro ?_
  have nsz := f5.szN ino
  have nlk := f5.lkN ino
  have h6 := h5.keep k6
  have nok := h6.okN ino
  have hni : ((getL L1 ino).getD node0).ino = ino := by
    obtain ⟨x, hx⟩ := Option.isSome_iff_exists.1 hino5
    rw [hx]; exact (getL_some hx).2
  simp only at n6 nsz nlk nok ⊢
  generalize (getL L1 ino).getD node0 = n at n6 nsz nlk nok hni ⊢
  generalize (getL L1 ino).isSome = is at hino5 ⊢
  obtain ⟨pa6, pc6, ma6, mc6, rfl, rfl, -⟩ := n6.slices
  unfold Node.enc
  have e1 : IntKind.i64.wrap (n.links - 1) = n.links - 1 := IntWalk.i64_in _ (by omega)
  by_cases g1 : n.kind = 2
  · rw [if_pos g1]
    simp -dsimp [go_sem, g1]
    generalize hW : w6.alloc _ = W7
    obtain ⟨R7, k7, z7⟩ := alloc1 hW
    clear hW
    have h7 := h6.keep k7
    have H7 := h7.hb
    have H7c := blk_cell H7; have H7f := blk_free H7; have H7l := blk_lt H7; have R7c := blk_cell R7; have R7f := blk_free R7; have R7l := blk_lt R7
    simp -dsimp [go_sem, H7c, H7f, H7l, R7c, R7f, R7l]
    obtain ⟨w8, hu8, h8, s8⟩ := h7.del ino 0
    refine del_intro hu8 ?_
    try simp -dsimp [go_sem]
    exact ⟨h8, (sO.then (Keep.trans k6 k7)).trans s8 (fun i _ q => .inr q)⟩
  · rw [if_neg g1]
    simp -dsimp [go_sem, g1, e1]
    generalize hW : w6.alloc _ = W7
    obtain ⟨R7, k7, z7⟩ := alloc1 hW
    clear hW
    have h7 := h6.keep k7
    have H7 := h7.hb
    have H7c := blk_cell H7; have H7f := blk_free H7; have H7l := blk_lt H7; have R7c := blk_cell R7; have R7f := blk_free R7; have R7l := blk_lt R7
    simp -dsimp [go_sem, H7c, H7f, H7l, R7c, R7f, R7l]
    have n7 := (n6.keep k7).keep (keep_drew W7)
    have r7 : rNode.R X W7.drew { n with links := n.links - 1 } (({ n with links := n.links - 1 } : Node).enc (.slice pa6 n.pages.length pc6) (.slice ma6 n.names.length mc6)) :=
      NNew.rep (B := w5.heap.size) ⟨⟨n7.po, n7.mo, n7.ne⟩, n7.pb, n7.mb⟩ ⟨nok.1, nok.2.1, ⟨by show _ ≤ n.links - 1; omega, by show n.links - 1 ≤ _; omega⟩, nok.2.2.2.1, nok.2.2.2.2⟩ (fun g _ hx => h5.xl g hx)
    obtain ⟨w8, hu8, h8, s8⟩ := (h7.keep (keep_drew W7)).upd r7 hni
    refine upd_intro hu8 ?_
    try simp -dsimp [go_sem]
    exact ⟨h8, ((sO.then (Keep.trans k6 k7)).then (keep_drew W7)).trans s8 (fun i _ q => .inr q)⟩
end Go.Proofs.YtdfjfagljngciaaGreat

set_option linter.all false
set_option maxRecDepth 100000
set_option maxHeartbeats 4000000
namespace Go.Proofs.YtdfjfagljngciaaGreat
open Go.RowKit Rx Go.MapKept

def removeS (s : St) (e : Effect) : Option St :=
  if mayS s e.dir e.name e.ino (if e.kind = 4 then 2 else 1) = true then some (offS s e.dir e.name e.ino) else none
theorem mayS_dir {s : St} {dir : Int} {nm : ByteArray} {ino kind : Int} (h : mayS s dir nm ino kind = true) : isDir s dir = true ∧ (getL s.L ino).isSome = true := by
  unfold mayS at h
  simp only [Bool.and_eq_true] at h
  exact ⟨h.1.1.1.1.1, h.1.1.2⟩
theorem state_remove (X : Nat → Prop) (b m : Nat) (s : St) (hf : Fine s) (e : Effect) (hok : e.ok) (a : Option Addr) (c : Nat) (w : World) (h : StAt w X b m s) :
    Calls Tryz.prog 73 #[.pointer (some ⟨b, 0, none⟩), .agg (e.enc (.slice a e.data.length c)).toArray] w fun r w' => r = .returned (.bool (removeS s e).isSome) ∧ StAt w' X b m ((removeS s e).getD s) ∧ Step (fun k => k = b ∨ k = m) w w' := by
  obtain ⟨o1, o2, o3, o4, o5, o6⟩ := hok
  refine calls_rx h73 Tryz.func73 rfl Tryz.mixed (by kernel_rfl) Tryz.results73 ?_
  unfold Effect.enc removeS
  simp -dsimp [go_sem]
  generalize hW : w.alloc _ = W
  obtain ⟨E0, k0, z0⟩ := alloc1 hW
  clear hW
  have h0 := h.keep k0
  have E0c := blk_cell E0; have E0f := blk_free E0; have E0l := blk_lt E0
  by_cases g1 : e.kind = 4
  · rw [if_pos g1]
    simp -dsimp [go_sem, E0c, E0f, E0l, g1]
    refine (state_may X b m s hf e.dir e.name e.ino 2 W h0).mono ?_; rintro _ w1 ⟨rfl, k1⟩; refine ret_intro ?_
    cases hm : mayS s e.dir e.name e.ino 2
    · rw [if_neg (by simp)]
      simp -dsimp [go_sem, E0c, E0f, E0l]
      exact ⟨(h0.keep k1), (Keep.trans k0 k1).any⟩
    · rw [if_pos rfl]
      have h1 := h0.keep k1
      replace E0 := Step.blk k1 E0 (fun q => q)
      clear E0c E0f E0l
      have E0c := blk_cell E0; have E0f := blk_free E0; have E0l := blk_lt E0
      obtain ⟨d1, d2⟩ := mayS_dir hm
      simp -dsimp [go_sem, E0c, E0f, E0l]
      refine (state_off X b m s hf e.dir e.name e.ino d1 d2 w1 h1).mono ?_; rintro _ w2 ⟨⟨v, rfl⟩, h2, s2⟩; refine ret_intro ?_
      simp -dsimp [go_sem]
      exact ⟨h2, Step.trans (O := fun k => k = b ∨ k = m) (Keep.trans k0 k1).any s2 (fun i _ q => q)⟩
  · rw [if_neg g1]
    simp -dsimp [go_sem, E0c, E0f, E0l, g1]
    refine (state_may X b m s hf e.dir e.name e.ino 1 W h0).mono ?_; rintro _ w1 ⟨rfl, k1⟩; refine ret_intro ?_
    cases hm : mayS s e.dir e.name e.ino 1
    · rw [if_neg (by simp)]
      simp -dsimp [go_sem, E0c, E0f, E0l]
      exact ⟨(h0.keep k1), (Keep.trans k0 k1).any⟩
    · rw [if_pos rfl]
      have h1 := h0.keep k1
      replace E0 := Step.blk k1 E0 (fun q => q)
      clear E0c E0f E0l
      have E0c := blk_cell E0; have E0f := blk_free E0; have E0l := blk_lt E0
      obtain ⟨d1, d2⟩ := mayS_dir hm
      simp -dsimp [go_sem, E0c, E0f, E0l]
      refine (state_off X b m s hf e.dir e.name e.ino d1 d2 w1 h1).mono ?_; rintro _ w2 ⟨⟨v, rfl⟩, h2, s2⟩; refine ret_intro ?_
      simp -dsimp [go_sem]
      exact ⟨h2, Step.trans (O := fun k => k = b ∨ k = m) (Keep.trans k0 k1).any s2 (fun i _ q => q)⟩
def linkS (s : St) (e : Effect) : Option St :=
  let p := putE (dirN s e.dir).names e.name e.ino
  if isDir s e.dir = true ∧ isFile s e.ino = true ∧ p.2 = true ∧ 1 ≤ (dirN s e.ino).links ∧ (dirN s e.ino).links < 16 then
    some ⟨setL (setL s.L { dirN s e.dir with names := p.1 }) { dirN s e.ino with links := (dirN s e.ino).links + 1 }, s.last⟩ else none
theorem state_link (X : Nat → Prop) (b m : Nat) (s : St) (hf : Fine s) (e : Effect) (hok : e.ok) (a : Option Addr) (c : Nat) (w : World) (h : StAt w X b m s) :
    Calls Tryz.prog 72 #[.pointer (some ⟨b, 0, none⟩), .agg (e.enc (.slice a e.data.length c)).toArray] w fun r w' => r = .returned (.bool (linkS s e).isSome) ∧ StAt w' X b m ((linkS s e).getD s) ∧ Step (fun k => k = b ∨ k = m) w w' := by
  obtain ⟨o1, o2, o3, o4, o5, o6⟩ := hok
  refine calls_rx h72 Tryz.func72 rfl Tryz.mixed (by kernel_rfl) Tryz.results72 ?_
  unfold Effect.enc
  simp -dsimp [go_sem]
  generalize hW : w.alloc _ = W
  obtain ⟨E0, k0, z0⟩ := alloc1 hW
  clear hW
  have h0 := h.keep k0
  refine (state_dir X b m s hf.d e.dir hf.sz W h0).mono ?_; rintro _ w1 ⟨p, q, rfl, n1, k1⟩; refine ret_intro ?_
  have h1 := h0.keep k1
  have dok := h1.okN e.dir
  have dsz := hf.szN e.dir
  have dlk := hf.lkN e.dir
  have hdi : isDir s e.dir = true → (dirN s e.dir).ino = e.dir := fun q => dirN_ino q
  have hfi : isFile s e.ino = true → (dirN s e.ino).ino = e.ino := fun q => dirN_ino q
  have hdm : isDir s e.dir = true → dirN s e.dir ∈ s.L := fun q => by
    unfold isDir at q; unfold dirN
    cases hg : getL s.L e.dir with
    | none => rw [hg] at q; simp at q
    | some n => exact (getL_some hg).1
  have hfm : isFile s e.ino = true → dirN s e.ino ∈ s.L := fun q => by
    unfold isFile at q; unfold dirN
    cases hg : getL s.L e.ino with
    | none => rw [hg] at q; simp at q
    | some n => exact (getL_some hg).1
  have hne : isDir s e.dir = true → isFile s e.ino = true → e.dir ≠ e.ino := fun q1 q2 q3 => by
    unfold isDir at q1; unfold isFile at q2; rw [← q3] at q2
    simp only [Bool.and_eq_true, decide_eq_true_eq] at q1 q2
    omega
  unfold linkS
  simp only [show (getL s.L e.dir).getD node0 = dirN s e.dir from rfl, show ((getL s.L e.dir).isSome && decide ((dirN s e.dir).kind = 2)) = isDir s e.dir from rfl] at n1 dok dsz dlk ⊢
  generalize dirN s e.dir = d at n1 dok dsz dlk hdi hdm ⊢
  generalize isDir s e.dir = ok1 at hdi hdm hne ⊢
  obtain ⟨pa, pc, ma, mc, rfl, rfl, -⟩ := n1.slices
  unfold Node.enc
  simp -dsimp [go_sem]
  generalize hW : w1.alloc _ = W2
  obtain ⟨R0, k2, z2⟩ := alloc1 hW
  clear hW
  have n2 := n1.keep k2
  have h2 := h1.keep k2
  have E2 := (Keep.trans k1 k2).blk E0 (fun q => q)
  have R0c := blk_cell R0; have R0f := blk_free R0; have R0l := blk_lt R0; have E2c := blk_cell E2; have E2f := blk_free E2; have E2l := blk_lt E2
  simp -dsimp [go_sem, R0c, R0f, R0l, E2c, E2f, E2l]
  refine (state_file X b m s hf.d e.ino hf.sz W2 h2).mono ?_; rintro _ w3 ⟨p3, q3, rfl, n3, k3⟩; refine ret_intro ?_
  have h3 := h2.keep k3
  have fok := h3.okN e.ino
  have fsz := hf.szN e.ino
  have flk := hf.lkN e.ino
  simp only [show (getL s.L e.ino).getD node0 = dirN s e.ino from rfl, show ((getL s.L e.ino).isSome && decide ((dirN s e.ino).kind = 1)) = isFile s e.ino from rfl] at n3 fok fsz flk ⊢
  generalize dirN s e.ino = f at n3 fok fsz flk hfi hfm ⊢
  generalize isFile s e.ino = ok2 at hfi hfm hne ⊢
  obtain ⟨pa3, pc3, ma3, mc3, rfl, rfl, -⟩ := n3.slices
  replace R0 := Step.blk k3 R0 (fun q => q); replace E2 := Step.blk k3 E2 (fun q => q)
  clear R0c R0f R0l E2c E2f E2l
  unfold Node.enc
  simp -dsimp [go_sem]
  generalize hW : w3.alloc _ = W4
  obtain ⟨F0, k4, z4⟩ := alloc1 hW
  clear hW
  replace R0 := Step.blk k4 R0 (fun q => q); replace E2 := Step.blk k4 E2 (fun q => q)
  have R0c := blk_cell R0; have R0f := blk_free R0; have R0l := blk_lt R0; have E2c := blk_cell E2; have E2f := blk_free E2; have E2l := blk_lt E2; have F0c := blk_cell F0; have F0f := blk_free F0; have F0l := blk_lt F0
  try simp -dsimp [go_sem, R0c, R0f, R0l, E2c, E2f, E2l, F0c, F0f, F0l]
  have k24 := Keep.trans k3 k4
  refine (dirs_Put (fun _ => False) _ d.names e.name e.ino o2 W4 (((n2.keep k24).mo.all flat_entry).sl (fun _ _ q => q)) (by omega)).mono ?_; rintro _ w5 ⟨v, rfl, ov, k5, bv⟩; refine ret_intro ?_
  generalize putE d.names e.name e.ino = P at ov ⊢
  obtain ⟨P1, P2⟩ := P
  have kw := Keep.trans k0 (Keep.trans (Keep.trans k1 k2) (Keep.trans k24 k5))
  have h5 := h.keep kw
  have H0 := h5.hb
  replace R0 := Step.blk k5 R0 (fun q => q); replace E2 := Step.blk k5 E2 (fun q => q); replace F0 := Step.blk k5 F0 (fun q => q)
  clear R0c R0f R0l E2c E2f E2l F0c F0f F0l
  have R0c := blk_cell R0; have R0f := blk_free R0; have R0l := blk_lt R0; have E2c := blk_cell E2; have E2f := blk_free E2; have E2l := blk_lt E2; have F0c := blk_cell F0; have F0f := blk_free F0; have F0l := blk_lt F0; have H0c := blk_cell H0; have H0f := blk_free H0; have H0l := blk_lt H0
  have no : ∀ w', Keep w5 w' → StAt w' X b m s ∧ Step (fun k => k = b ∨ k = m) w w' := fun w' k => ⟨h5.keep k, (Keep.trans kw k).any⟩
  obtain ⟨va, vc, rfl, -⟩ := ov.slice
  simp only at ov bv ⊢
  cases ok1
  · simp -dsimp [go_sem, R0c, R0f, R0l, E2c, E2f, E2l, F0c, F0f, F0l]
    exact no _ (Keep.refl _)
  cases ok2
  · simp -dsimp [go_sem, R0c, R0f, R0l, E2c, E2f, E2l, F0c, F0f, F0l]
    exact no _ (Keep.refl _)
  cases P2
  · simp -dsimp [go_sem, R0c, R0f, R0l, E2c, E2f, E2l, F0c, F0f, F0l]
    exact no _ (Keep.refl _)
  by_cases g3 : f.links < 1
  · have g4 : ¬ 1 ≤ f.links := by omega
    simp -dsimp [go_sem, R0c, R0f, R0l, E2c, E2f, E2l, F0c, F0f, F0l, g3, g4]
    exact no _ (Keep.refl _)
  by_cases g5 : 16 ≤ f.links
  · have g6 : ¬ f.links < 16 := by omega
    simp -dsimp [go_sem, R0c, R0f, R0l, E2c, E2f, E2l, F0c, F0f, F0l, g3, g5, g6]
    exact no _ (Keep.refl _)
  rw [if_pos (show (true = true ∧ true = true ∧ true = true ∧ 1 ≤ f.links ∧ f.links < 16) from ⟨rfl, rfl, rfl, by omega, by omega⟩)]
  have e1 : IntKind.i64.wrap (f.links + 1) = f.links + 1 := IntWalk.i64_in _ (by omega)
  have z1 := k1.size
  have z3 := k3.size
  have z5 := k5.size
  have y1 : ¬ w1.heap.size = w3.heap.size := by omega
  have y2 : ¬ w3.heap.size = w1.heap.size := by omega
  simp -dsimp [go_sem, R0c, R0f, R0l, E2c, E2f, E2l, F0c, F0f, F0l, g3, g5, e1, y1, y2]
  generalize qw6 : World.setCell _ _ _ = w6; have sw6 : Step (fun k => k = w1.heap.size ∨ k = w3.heap.size) w5 w6 := by (rw [← qw6]; (repeat (with_reducible refine Step.set ?_ ?_ _)); (with_reducible exact Step.refl _ _); all_goals exact .inl (by simp))
  have R6 : w6.heap[w1.heap.size]? = some (.cells #[.int .i64 d.ino, .int .i64 d.kind, .int .i64 d.links, .int .i64 d.size, .int .i64 d.up, .slice pa d.pages.length pc, .slice va P1.length vc] 42 (0, 0)) := by
    rw [← qw6]
    exact blk_far (blk_eq (blk_set R0 6 _) (by first | rfl | simp)) (by first | exact y1 | exact y2) _
  have F6 : w6.heap[w3.heap.size]? = some (.cells #[.int .i64 f.ino, .int .i64 f.kind, .int .i64 (f.links + 1), .int .i64 f.size, .int .i64 f.up, .slice pa3 f.pages.length pc3, .slice ma3 f.names.length mc3] 42 (0, 0)) := by
    rw [← qw6]
    exact blk_eq (blk_set (blk_far F0 (by first | exact y1 | exact y2) _) 2 _) (by first | rfl | simp)
  clear qw6
  have kw6 : Keep w w6 := Step.keep kw sw6 (fun i q => by omega)
  have h6 := h.keep kw6
  have H6 := h6.hb
  have E6 := sw6.blk E2 (by omega)
  have hbm := h.size_b
  have hA : Agree (holed w6 m) w6 := holed_agree (fun _ _ _ => rfl)
  refine blankF_intro (holed w6 m) hA ?_
  have R6' := (holed_blk (w := w6) (b := m) (by omega)).trans R6
  have F6' := (holed_blk (w := w6) (b := m) (by omega)).trans F6
  have H6' := (holed_blk (w := w6) (b := m) (by omega)).trans H6
  have E6' := (holed_blk (w := w6) (b := m) (by omega)).trans E6
  clear R0c R0f R0l E2c E2f E2l F0c F0f F0l H0c H0f H0l
  have R6'c := blk_cell R6'; have R6'f := blk_free R6'; have R6'l := blk_lt R6'; have F6'c := blk_cell F6'; have F6'f := blk_free F6'; have F6'l := blk_lt F6'; have H6'c := blk_cell H6'; have H6'f := blk_free H6'; have H6'l := blk_lt H6'; have E6'c := blk_cell E6'; have E6'f := blk_free E6'; have E6'l := blk_lt E6'
  simp -dsimp [go_sem, R6'c, R6'f, R6'l, F6'c, F6'f, F6'l, H6'c, H6'f, H6'l, E6'c, E6'f, E6'l]
  have n25 := (n2.keep k24).keep k5
  have Nd : NNew w.heap.size w6 { d with names := P1 } (.slice pa d.pages.length pc) (.slice va P1.length vc) := by
    refine ⟨⟨n25.po.flat flat_int sw6 (fun g hg q => ?_), ov.flat flat_entry sw6 (fun g hg q => ?_), fun g hg hg2 => ?_⟩, fun g hg => ?_, fun g hg => ?_⟩
    · have := n1.po.lt hg; omega
    · have := bv g hg; omega
    · have := n1.po.lt hg; have := bv g hg2; omega
    · have := n2.pb g hg; omega
    · have := bv g hg; omega
  have n35 := (n3.keep k4).keep k5
  have Nf : NNew w.heap.size w6 { f with links := f.links + 1 } (.slice pa3 f.pages.length pc3) (.slice ma3 f.names.length mc3) := by
    refine ⟨⟨n35.po.flat flat_int sw6 (fun g hg q => ?_), n35.mo.flat flat_entry sw6 (fun g hg q => ?_), n35.ne⟩, fun g hg => ?_, fun g hg => ?_⟩
    · have := n3.pb g hg; have := n3.po.lt hg; omega
    · have := n3.mb g hg; have := n3.mo.lt hg; omega
    · have := n3.pb g hg; omega
    · have := n3.mb g hg; omega
  have rd := rNode.keep (Nd.rep (X := X) (by exact dok) (fun g _ hx => h.xl g hx)) (keep_drew w6)
  have rf := rNode.keep (Nf.rep (X := X) ⟨fok.1, fok.2.1, ⟨by show _ ≤ f.links + 1; omega, by show f.links + 1 ≤ _; omega⟩, fok.2.2.2.1, fok.2.2.2.2⟩ (fun g _ hx => h.xl g hx)) (keep_drew w6)
  have h6d := h6.keep (keep_drew w6)
  obtain ⟨u, born, he, hst⟩ := h6d.hm.ent hf.d (hdm rfl)
  rw [hdi rfl] at he
  refine ent_intro he ?_
  simp -dsimp [go_sem]
  obtain ⟨w7, he7, M7, s7⟩ := h6d.hm.est h.xm rd hst
  refine ⟨(by (repeat (with_reducible first | exact hA | refine agree_drew ?_ | refine holed_set ?_ _ _))), est_intro he7 ?_⟩
  have hA7 : Agree (holed w6 m) w7 := holed_agree (fun k hk hne => s7.block k hk hne)
  simp -dsimp [go_sem]
  have hm8 : f ∈ setL s.L { d with names := P1 } := mem_setL.2 (.inr ⟨hfm rfl, fun q => hne rfl rfl (by rw [hfi rfl] at q; rw [q]; exact (hdi rfl).symm)⟩)
  obtain ⟨u8, born8, he8, hst8⟩ := M7.ent (inos_setL hf.d _) hm8
  rw [hfi rfl] at he8
  refine ⟨(by (repeat (with_reducible first | exact hA7 | refine agree_drew ?_ | refine holed_set ?_ _ _))), ent_intro he8 ?_⟩
  simp -dsimp [go_sem]
  obtain ⟨w9, he9, M9, s9⟩ := M7.est h.xm (rNode.step rf s7 (fun k q => q ▸ h.xm)) hst8
  refine ⟨(by (repeat (with_reducible first | exact hA7 | refine agree_drew ?_ | refine holed_set ?_ _ _))), est_intro he9 ?_⟩
  have hA9 : Agree (holed w6 m) w9 := holed_agree (fun k hk hne => (s9.block k (Nat.lt_of_lt_of_le hk s7.size) hne).trans (s7.block k hk hne))
  simp -dsimp [go_sem]
  have s69 : Step (fun k => k = m) w6.drew w9 := s7.both s9
  have hbm6 := h6d.size_b
  exact ⟨⟨s69.blk h6d.hb (by omega), M9, h.xb, h.xm, fun k q => Nat.lt_of_lt_of_le (h6d.xl k q) s69.size⟩, ((kw6.any (O := fun k => k = b ∨ k = m)).then (keep_drew w6)).trans s69 (fun i _ q => .inr q)⟩
end Go.Proofs.YtdfjfagljngciaaGreat
