/- Package state: how many words a state has. Package state: all references. The reference's geometry; packages room: what is left, and whether a state fits. -/
import Derived.Test.YtdfjfagljngciaaGreatSti
import Derived.Test.YtdfjfagljngciaaGreatStq
set_option linter.all false
set_option maxRecDepth 100000
set_option maxHeartbeats 4000000
namespace Go.Proofs.YtdfjfagljngciaaGreat
open Go.RowKit Rx Go.MapKept

theorem sumF_le {f : Node → Int} {C : Int} : ∀ {L : List Node}, (∀ n ∈ L, 0 ≤ f n ∧ f n ≤ C) → 0 ≤ sumF f L ∧ sumF f L ≤ L.length * C
  | [], _ => by simp [sumF]
  | x :: L, h => by
    have h1 := h x (List.mem_cons_self ..)
    have h2 := sumF_le (L := L) (fun n hn => h n (List.mem_cons_of_mem _ hn))
    rw [sumF_cons, List.length_cons, Int.natCast_add, Int.add_mul]
    omega
theorem NodeOk.words {k : Nat} {n : Node} (h : NodeOk k n) (hk : k ≤ 2 ^ 19) : 0 ≤ wordsN n ∧ wordsN n ≤ 2 ^ 40 + 71 := by
  have h1 := h.pg
  have h2 := h.len
  have h3 := sumW_le n.names (fun x hx => Nat.le_trans (h.nm x hx).1 (by decide))
  have h4 := wordsN_nn n
  unfold wordsN at h4 ⊢
  omega
theorem words_take {k : Nat} {s : St} (h : Good k s) (hk : k ≤ 2 ^ 19) (i : Nat) : 0 ≤ sumF wordsN (s.L.take i) ∧ sumF wordsN (s.L.take i) ≤ 2 ^ 60 := by
  have h1 := sumF_le (f := wordsN) (C := 2 ^ 40 + 71) (L := s.L.take i) (fun n hn => (h.ok n (List.mem_of_mem_take hn)).words hk)
  have h2 := h.len
  have h3 : (s.L.take i).length ≤ 2 ^ 19 + 1 := by rw [List.length_take]; omega
  refine ⟨h1.1, Int.le_trans h1.2 ?_⟩
  have : ((s.L.take i).length : Int) ≤ 2 ^ 19 + 1 := by omega
  calc ((s.L.take i).length : Int) * (2 ^ 40 + 71) ≤ (2 ^ 19 + 1) * (2 ^ 40 + 71) := Int.mul_le_mul_of_nonneg_right this (by decide)
    _ ≤ 2 ^ 60 := by decide
theorem sumF_take {f : Node → Int} {L : List Node} {i : Nat} {x : Node} (h : L[i]? = some x) : sumF f (L.take (i + 1)) = sumF f (L.take i) + f x := by
  rw [List.take_add_one, h, sumF_app]; simp [sumF]
theorem state_Words (X : Nat → Prop) (b m : Nat) (s : St) (k : Nat) (hg : Good k s) (hk : k ≤ 2 ^ 19) (w : World) (h : StAt w X b m s) :
    Calls Tryz.prog 36 #[.pointer (some ⟨b, 0, none⟩)] w fun r w' => r = .returned (.int .i64 (wordsS s)) ∧ Keep w w' := by
  have hf := hg.fine hk
  have hl40 : s.L.length ≤ 2 ^ 40 := Nat.le_trans hg.len (by omega)
  refine calls_rx h36 Tryz.func36 rfl Tryz.mixed (by kernel_rfl) Tryz.results36 ?_
  simp -dsimp [go_sem]
  refine (state_ok X b m s w h).mono ?_; rintro _ w1 ⟨rfl, rfl⟩; refine ret_intro ?_
  have H0 := h.hb
  have H0c := blk_cell H0; have H0f := blk_free H0; have H0l := blk_lt H0
  simp -dsimp [go_sem, H0c, H0f, H0l]
  generalize hW : w.alloc _ = W
  obtain ⟨E0, k0, z0⟩ := alloc1 hW
  clear hW
  refine (state_Nodes (some ⟨b, 0, none⟩) W).mono ?_; rintro _ w2 ⟨p, rfl, P2, k2, hp1, hp2⟩; refine ret_intro ?_
  replace E0 := Step.blk k2 E0 (fun q => q)
  have k02 := Keep.trans k0 k2
  have h2 := h.wide (Y := fun k => k = w.heap.size) k02 (fun k q => by have := k2.size; subst q; omega)
  have hbm := h.size_b
  simp -dsimp [go_sem]
  refine range_intro (nodes_iter _ b m s hg.srt hf.sz hl40 w2 h2 p P2 (fun k => k = w.heap.size) (fun k q => ⟨.inr q, by omega, by omega, by omega⟩)) nodes_eg
    (fun i A V => A = (fun k => k = w.heap.size) ∧ Step (fun k => k = w.heap.size) w2 V ∧ V.heap[w.heap.size]? = some (.cells #[.int .i64 (2 + sumF wordsN (s.L.take i))] 3 (0, 0)))
    (fun _ _ => False) (by first | rfl | simp -dsimp [go_sem]) (by first | rfl | simp -dsimp [go_sem]) ?_ ?_ ?_ ?_ ?_ ?_ ?_
  · rintro i A V ⟨rfl, hs, hv⟩ j rfl
    have := hs.size; have := blk_lt E0
    exact ⟨by omega, by omega, by omega⟩
  · rintro i A V V' ⟨rfl, hs, hv⟩ hst
    have := blk_lt E0
    exact ⟨rfl, hs.trans hst (fun j hj q => by omega), hst.blk hv (by omega)⟩
  · rintro e V V' q; exact q.elim
  · exact ⟨rfl, Step.refl _ _, by simpa [sumF] using E0⟩
  · rintro i x A V vs hx ⟨rfl, hs, hv⟩ ⟨pp, pq, rfl, nn, xok, b1, b2, bl⟩
    refine ⟨rfl, ?_⟩
    obtain ⟨pa, pc, ma, mc, rfl, rfl, -⟩ := nn.slices
    have hxm : x ∈ s.L := List.mem_of_getElem? hx
    have hok := hg.ok x hxm
    have hw1 := words_take hg hk i
    have hw2 := words_take hg hk (i + 1)
    rw [sumF_take hx] at hw2
    have e1 : IntKind.i64.wrap (2 + sumF wordsN (s.L.take i) + wordsN x) = 2 + sumF wordsN (s.L.take i) + wordsN x := IntWalk.i64_in _ (by omega)
    unfold Node.enc
    simp -dsimp [go_sem]
    have lV : w2.heap.size + 1 < V.heap.size := bl _ (.inr (.inr rfl))
    have l2 := blk_lt E0
    generalize hW : V.alloc _ = V1
    obtain ⟨N1, k1, z1⟩ := alloc1 hW
    clear hW
    refine ⟨Keep.any k1, fun V2 s12 => ?_⟩
    have N2 := s12.blk N1 (by omega)
    have v2 := s12.blk (k1.blk hv (fun q => q)) (by omega)
    have hA : Agree (holed V2 w.heap.size) V2 := holed_agree (fun _ _ _ => rfl)
    have N2c := blk_cell N2; have N2f := blk_free N2; have N2l := blk_lt N2; have v2c := blk_cell v2; have v2f := blk_free v2; have v2l := blk_lt v2
    simp -dsimp [go_sem, N2c, N2f, N2l, v2c, v2f, v2l]
    have n2 : NOw V2 x (.slice pa x.pages.length pc) (.slice ma x.names.length mc) := (nn.toNOw.keep k1).step s12 (fun g hg q => b1 g hg (.inr (.inr q))) (fun g hg q => b2 g hg (.inr (.inr q)))
    have r2 : rNode.R (fun _ => False) V2.drew x (x.enc (.slice pa x.pages.length pc) (.slice ma x.names.length mc)) := rNode.keep (n2.rep xok (fun _ _ q => q) (fun _ _ q => q)) (keep_drew V2)
    refine (inode_Words (fun _ => False) x _ V2.drew r2 (hf.sz x hxm).1 (hf.sz x hxm).2 (fun y hy => Nat.le_trans (hok.nm y hy).1 (by decide))).mono ?_; rintro _ V3 ⟨rfl, k3⟩; refine ret_intro ?_
    have k23 := Keep.trans (keep_drew V2) k3
    refine ⟨Keep.agree k23 (Agree.refl _), ?_⟩
    have v3 := k23.blk v2 (fun q => q)
    clear v2c v2f v2l N2c N2f N2l
    have v3c := blk_cell v3; have v3f := blk_free v3; have v3l := blk_lt v3
    simp -dsimp [go_sem, v3c, v3f, v3l, e1]
    refine ⟨_, ⟨rfl, ?_, blk_eq (blk_set v3 0 _) (by rw [sumF_take hx, ← Int.add_assoc]; first | rfl | simp)⟩, (Keep.any k23).set (.inl (.inl rfl)) _, fun _ q => .inl q⟩
    exact (((hs.then k1).trans s12 (fun j hj q => by omega)).then k23).set (.inl rfl) _
  · rintro A V ⟨rfl, hs, hv⟩ hd
    have l2 := blk_lt E0
    rw [List.take_length] at hv
    have hvc := blk_cell hv; have hvf := blk_free hv; have hvl := blk_lt hv
    simp -dsimp [go_sem, hvc, hvf, hvl]
    refine end_intro hd ?_
    rintro w4 s4
    try simp -dsimp [go_sem]
    exact ⟨rfl, Step.keep (Step.keep k02 hs (fun j q => by omega)) s4 (fun j q => by omega)⟩
  · rintro e V _ q; exact q.elim
end Go.Proofs.YtdfjfagljngciaaGreat

set_option linter.all false
set_option maxRecDepth 100000
set_option maxHeartbeats 4000000
namespace Go.Proofs.YtdfjfagljngciaaGreat
open Go.RowKit Rx Go.MapKept

theorem flat_take {α β : Type} {f : α → List β} {L : List α} {i : Nat} {x : α} (h : L[i]? = some x) : (L.take (i + 1)).flatMap f = (L.take i).flatMap f ++ f x := by
  rw [List.take_add_one, h, List.flatMap_append]; simp
theorem refs_le {k : Nat} {s : St} (h : Good k s) (hk : k ≤ 2 ^ 19) (i : Nat) : ((s.L.take i).flatMap refsN).length ≤ 2 ^ 30 := by
  have h1 := refs_sum (s.L.take i)
  have h2 := sumF_le (f := cntN) (C := 64) (L := s.L.take i) (fun n hn => ⟨cntN_nn n, by
    have := (h.ok n (List.mem_of_mem_take hn)).pg
    unfold cntN refsN
    have := List.length_filter_le (fun x => !decide (x = 0)) n.pages
    omega⟩)
  have h3 := h.len
  have h4 : (s.L.take i).length ≤ s.L.length := List.length_take_le' i s.L
  omega
theorem state_Refs (X : Nat → Prop) (b m : Nat) (s : St) (k : Nat) (hg : Good k s) (hk : k ≤ 2 ^ 19) (w : World) (h : StAt w X b m s) :
    Calls Tryz.prog 42 #[.pointer (some ⟨b, 0, none⟩)] w fun r w' => ∃ v, r = .returned v ∧ Ow rInt 3 (fun _ => True) w' v (refsS s) ∧ Keep w w' ∧ ∀ g, ownB v = some g → w.heap.size ≤ g := by
  have hf := hg.fine hk
  have hl40 : s.L.length ≤ 2 ^ 40 := Nat.le_trans hg.len (by omega)
  refine calls_rx h42 Tryz.func42 rfl Tryz.mixed (by kernel_rfl) Tryz.results42 ?_
  simp -dsimp [go_sem]
  generalize hW : w.alloc _ = W
  obtain ⟨E0, k0, z0⟩ := alloc1 hW
  clear hW
  refine (state_Nodes (some ⟨b, 0, none⟩) W).mono ?_; rintro _ w2 ⟨p, rfl, P2, k2, hp1, hp2⟩; refine ret_intro ?_
  replace E0 := Step.blk k2 E0 (fun q => q)
  have k02 := Keep.trans k0 k2
  have h2 := h.wide (Y := fun k => k = w.heap.size) k02 (fun k q => by have := k2.size; subst q; omega)
  have hbm := h.size_b
  simp -dsimp [go_sem]
  refine range_intro (nodes_iter _ b m s hg.srt hf.sz hl40 w2 h2 p P2 (fun k => k = w.heap.size) (fun k q => ⟨.inr q, by omega, by omega, by omega⟩)) nodes_eg
    (fun i A V => ∃ v, A = (fun k => k = w.heap.size ∨ ownB v = some k) ∧ Step (fun k => k = w.heap.size) w2 V ∧ V.heap[w.heap.size]? = some (.cells #[v] 39 (0, 0)) ∧ Ow rInt 3 (fun _ => True) V v ((s.L.take i).flatMap refsN) ∧ ∀ g, ownB v = some g → w2.heap.size + 1 < g ∧ g < V.heap.size)
    (fun _ _ => False) (by first | rfl | simp -dsimp [go_sem]) (by first | rfl | simp -dsimp [go_sem]) ?_ ?_ ?_ ?_ ?_ ?_ ?_
  · rintro i A V ⟨v, rfl, hs, hv, ho, hb⟩ j q
    have := hs.size; have := blk_lt E0
    rcases q with rfl | q
    · exact ⟨by omega, by omega, by omega⟩
    · have := hb j q; exact ⟨by omega, by omega, by omega⟩
  · rintro i A V V' ⟨v, rfl, hs, hv, ho, hb⟩ hst
    have := blk_lt E0
    have := hst.size
    exact ⟨v, rfl, hs.trans hst (fun j hj q => by omega), hst.blk hv (by omega), ho.flat flat_int hst (fun g q q2 => by have := hb g q; omega), fun g q => by have := hb g q; omega⟩
  · rintro e V V' q; exact q.elim
  · exact ⟨.slice none 0 0, by simp [ownB], Step.refl _ _, by simpa using E0, by simpa using Ow.nil _ _ _ _, by simp [ownB]⟩
  · rintro i x A V vs hx ⟨v, rfl, hs, hv, ho, hb⟩ ⟨pp, pq, rfl, nn, xok, b1, b2, bl⟩
    refine ⟨rfl, ?_⟩
    obtain ⟨pa, pc, ma, mc, rfl, rfl, -⟩ := nn.slices
    have hxm : x ∈ s.L := List.mem_of_getElem? hx
    have hok := hg.ok x hxm
    unfold Node.enc
    simp -dsimp [go_sem]
    have lV : w2.heap.size + 1 < V.heap.size := bl _ (.inr (.inr rfl))
    have l2 := blk_lt E0
    generalize hW : V.alloc _ = V1
    obtain ⟨N1, k1, z1⟩ := alloc1 hW
    clear hW
    refine ⟨Keep.any k1, fun V2 s12 => ?_⟩
    have N2 := s12.blk N1 (by omega)
    have v2 := s12.blk (k1.blk hv (fun q => q)) (by omega)
    have l12 := s12.size
    have o2 : Ow rInt 3 (fun _ => True) V2 v ((s.L.take i).flatMap refsN) := (ho.keep k1).flat flat_int s12 (fun g q q2 => by have := hb g q; omega)
    have n2 : NOw V2 x (.slice pa x.pages.length pc) (.slice ma x.names.length mc) := (nn.toNOw.keep k1).step s12 (fun g hg q => b1 g hg (.inr (.inr q))) (fun g hg q => b2 g hg (.inr (.inr q)))
    have r2 : rNode.R (fun _ => False) V2.drew x (x.enc (.slice pa x.pages.length pc) (.slice ma x.names.length mc)) := rNode.keep (n2.rep xok (fun _ _ q => q) (fun _ _ q => q)) (keep_drew V2)
    obtain ⟨va, vc, rfl, -⟩ := ho.slice
    generalize hvv : Value.slice va ((s.L.take i).flatMap refsN).length vc = v at *
    obtain ⟨hk', hk1, hk2, hk3⟩ : ∃ hk' : Nat, (∀ g, ownB v = some g → g = hk') ∧ hk' ≠ w.heap.size ∧ hk' ≠ V.heap.size := by
      cases hq : ownB v with
      | none => exact ⟨V2.heap.size, by simp, by omega, by omega⟩
      | some g => have := hb g hq; exact ⟨g, by simp, by omega, by omega⟩
    have hA : Agree (holed V2 hk') V2 := holed_agree (fun _ _ _ => rfl)
    refine blankF_intro (holed V2 hk') hA ?_
    have N3 := (holed_blk (w := V2) (b := hk') (by omega)).trans N2
    have v3 := (holed_blk (w := V2) (b := hk') (by omega)).trans v2
    have N3c := blk_cell N3; have N3f := blk_free N3; have N3l := blk_lt N3; have v3c := blk_cell v3; have v3f := blk_free v3; have v3l := blk_lt v3
    simp -dsimp [go_sem, N3c, N3f, N3l, v3c, v3f, v3l]
    refine (inode_Refs (fun _ => False) x _ V2.drew r2 (Nat.le_trans (hf.sz x hxm).1 (by decide))).mono ?_; rintro _ V3 ⟨g, rfl, og, k3, bg⟩; refine ret_intro ?_
    have k23 := Keep.trans (keep_drew V2) k3
    refine ⟨holed_agree (fun j hj hne => k23.block j hj (fun q => q)), ?_⟩
    have hl1 := refs_le hg hk i
    have hl2 : (refsN x).length ≤ 64 := Nat.le_trans (List.length_filter_le _ _) hok.pg
    have o3 := o2.keep k23
    obtain ⟨ga, gc, rfl, -⟩ := og.slice
    simp -dsimp [go_sem]
    refine app_flat 8 flat_int Tryz.underlying39 (by kernel_rfl) one_int o3 ((og.all flat_int (Y := fun _ => False)).sl (fun _ _ q => q)) (by unfold maxLen; unfold refsN at hl2; omega) (by unfold refsN at hl2; omega) ?_
    intro v' V4 o4 s4 b4
    have v4 := s4.blk (k23.blk v2 (fun q => q)) (fun q => by have := hb _ q; omega)
    have hfl := flat_take (f := refsN) hx
    change Ow _ _ _ _ _ ((s.L.take i).flatMap refsN ++ refsN x) at o4
    rw [← hfl] at o4
    clear N3c N3f N3l v3c v3f v3l
    have v4c := blk_cell v4; have v4f := blk_free v4; have v4l := blk_lt v4
    obtain ⟨va4, vc4, rfl, -⟩ := o4.slice
    generalize hn4 : ((s.L.take (i + 1)).flatMap refsN).length = n4 at *
    simp -dsimp [go_sem, v4c, v4f, v4l]
    have l23 := k23.size
    have hb4 : ∀ g, ownB (.slice va4 n4 vc4) = some g → w2.heap.size + 1 < g ∧ g < V4.heap.size := fun g hg => by
      have := (o4.lt hg)
      rcases b4 g hg with q | q
      · have := hb g q; omega
      · omega
    have sW : Step (fun k => k = w.heap.size) V4 (V4.setCell ⟨w.heap.size, 0, none⟩ (.slice va4 n4 vc4)) := (Step.refl (fun k => k = w.heap.size) V4).set (.inl rfl) _
    have s24 : Step (fun k => k = w.heap.size ∨ ownB v = some k) V2 V4 := Step.trans (O := fun k => k = w.heap.size ∨ ownB v = some k) (Keep.any k23) s4 (fun j _ q => .inr q)
    have lW := sW.size
    refine ⟨_, ⟨_, rfl, ?_, blk_eq (blk_set v4 0 _) (by first | rfl | simp), o4.flat flat_int sW (fun g hg q => by have := hb4 g hg; omega), fun g hg => by have := hb4 g hg; omega⟩, ?_, fun j q => ?_⟩
    · exact ((((hs.then k1).trans s12 (fun j hj q => by omega)).then k23).trans s4 (fun j hj q => by have := hb j q; omega)).trans sW (fun j hj q => q)
    · exact (s24.mono (fun j _ q => .inl q)).trans sW (fun j _ q => .inl (.inl q))
    · rcases q with q | q
      · exact .inl (.inl q)
      · rcases b4 j q with q' | q'
        · exact .inl (.inr q')
        · right; omega
  · rintro A V ⟨v, rfl, hs, hv, ho, hb⟩ hd
    have l2 := blk_lt E0
    rw [List.take_length] at ho
    have hvc := blk_cell hv; have hvf := blk_free hv; have hvl := blk_lt hv
    simp -dsimp [go_sem, hvc, hvf, hvl]
    refine end_intro hd ?_
    rintro w4 s4
    try simp -dsimp [go_sem]
    exact ⟨ho.flat flat_int s4 (fun g hg q => by have := hb g hg; omega), Step.keep (Step.keep k02 hs (fun j q => by omega)) s4 (fun j q => by omega), fun g hg => by have := hb g hg; omega⟩
  · rintro e V _ q; exact q.elim
end Go.Proofs.YtdfjfagljngciaaGreat

set_option linter.all false
set_option maxRecDepth 100000
set_option maxHeartbeats 4000000
namespace Go.Proofs.YtdfjfagljngciaaGreat
open Go.RowKit Rx Go.MapKept

def geomS (pages : Int) : Geom := if pages < 64 ∨ 1048576 < pages then ⟨0, 0, 0, 0, 0⟩ else
  ⟨pages, pages / 8, (32 * (pages / 8) - 2) / 2, 32 * (pages / 8) - 2 - (32 * (pages / 8) - 2) / 2, pages - 1 - 2 * (pages / 8)⟩
def geomB (pages : Int) : Bool := !(decide (pages < 64) || decide (1048576 < pages))
theorem ref_Geom (pages : Int) (w : World) : Calls Tryz.prog 10 #[.int .i64 pages] w fun e w' => e = .returned (.tuple #[.agg (geomS pages).enc.toArray, .bool (geomB pages)]) ∧ Keep w w' := by
  refine calls_rx h10 Tryz.func10 rfl Tryz.mixed (by kernel_rfl) Tryz.results10 ?_
  simp -dsimp [go_sem]
  by_cases g1 : pages < 64
  · have : geomS pages = ⟨0, 0, 0, 0, 0⟩ := by unfold geomS; rw [if_pos (.inl g1)]
    rw [this]
    unfold geomB Geom.enc
    simp -dsimp [go_sem, g1]
    exact keep_alloc w _
  by_cases g2 : 1048576 < pages
  · have : geomS pages = ⟨0, 0, 0, 0, 0⟩ := by unfold geomS; rw [if_pos (.inr g2)]
    rw [this]
    unfold geomB Geom.enc
    simp -dsimp [go_sem, g1, g2]
    exact keep_alloc w _
  have hg : geomS pages = ⟨pages, pages / 8, (32 * (pages / 8) - 2) / 2, 32 * (pages / 8) - 2 - (32 * (pages / 8) - 2) / 2, pages - 1 - 2 * (pages / 8)⟩ := by unfold geomS; rw [if_neg (by omega)]
  rw [hg]
  have e1 : pages.tdiv 8 = pages / 8 := Int.tdiv_eq_ediv_of_nonneg (by omega)
  have e2 : (32 * (pages / 8) - 2).tdiv 2 = (32 * (pages / 8) - 2) / 2 := Int.tdiv_eq_ediv_of_nonneg (by omega)
  have e3 : IntKind.i64.wrap (pages / 8) = pages / 8 := IntWalk.i64_in _ (by omega)
  have e4 : IntKind.i64.wrap (32 * (pages / 8)) = 32 * (pages / 8) := IntWalk.i64_in _ (by omega)
  have e5 : IntKind.i64.wrap (32 * (pages / 8) - 2) = 32 * (pages / 8) - 2 := IntWalk.i64_in _ (by omega)
  have e6 : IntKind.i64.wrap ((32 * (pages / 8) - 2) / 2) = (32 * (pages / 8) - 2) / 2 := IntWalk.i64_in _ (by omega)
  unfold geomB Geom.enc
  simp -dsimp [go_sem, g1, g2, e1, e2, e3, e4, e5, e6]
  have e7 : IntKind.i64.wrap (pages - 1) = pages - 1 := IntWalk.i64_in _ (by omega)
  have e8 : IntKind.i64.wrap (2 * (pages / 8)) = 2 * (pages / 8) := IntWalk.i64_in _ (by omega)
  exact ⟨⟨IntWalk.i64_in _ (by omega), by rw [e7, e8]; exact IntWalk.i64_in _ (by omega)⟩, keep_alloc w _⟩
/-- A geometry whose numbers are small. -/
def Geom.small (g : Geom) : Prop := -1099511627776 ≤ g.image ∧ g.image ≤ 1099511627776 ∧ -1099511627776 ≤ g.data ∧ g.data ≤ 1099511627776
theorem geomS_small (pages : Int) : (geomS pages).small := by
  unfold geomS Geom.small
  split
  · simp
  · simp only; omega
def leftW (g : Geom) (s : St) : Int := g.image - 1 - wordsS s
def leftP (g : Geom) (s : St) : Int := g.data - 1 - (refsS s).length
def fitsS (g : Geom) (s : St) : Bool := decide (0 ≤ leftW g s) && decide (0 ≤ leftP g s)
theorem words_bd {k : Nat} {s : St} (h : Good k s) (hk : k ≤ 2 ^ 19) : 0 ≤ wordsS s ∧ wordsS s ≤ 2 ^ 60 + 2 := by
  have := words_take h hk s.L.length
  rw [List.take_length] at this
  unfold wordsS; omega
theorem refs_bd {k : Nat} {s : St} (h : Good k s) (hk : k ≤ 2 ^ 19) : (refsS s).length ≤ 2 ^ 30 := by
  have := refs_le h hk s.L.length
  rw [List.take_length] at this
  exact this
theorem room_Pages (X : Nat → Prop) (b m : Nat) (s : St) (k : Nat) (hg : Good k s) (hk : k ≤ 2 ^ 19) (w : World) (h : StAt w X b m s) :
    Calls Tryz.prog 20 #[.pointer (some ⟨b, 0, none⟩)] w fun r w' => r = .returned (.int .i64 (refsS s).length) ∧ Keep w w' := by
  refine calls_rx h20 Tryz.func20 rfl Tryz.mixed (by kernel_rfl) Tryz.results20 ?_
  simp -dsimp [go_sem]
  refine (state_Refs X b m s k hg hk w h).mono ?_; rintro _ w1 ⟨v, rfl, o1, k1, b1⟩; refine ret_intro ?_
  obtain ⟨va, vc, rfl, -⟩ := o1.slice
  simp -dsimp [go_sem]
  exact k1
theorem room_Left (X : Nat → Prop) (b m : Nat) (s : St) (k : Nat) (hg : Good k s) (hk : k ≤ 2 ^ 19) (g : Geom) (hs : g.small) (w : World) (h : StAt w X b m s) :
    Calls Tryz.prog 14 #[.agg g.enc.toArray, .pointer (some ⟨b, 0, none⟩)] w fun r w' => r = .returned (.tuple #[.int .i64 (leftW g s), .int .i64 (leftP g s)]) ∧ Keep w w' := by
  have h1 := words_bd hg hk
  have h2 := refs_bd hg hk
  obtain ⟨g1, g2, g3, g4⟩ := hs
  have e1 : IntKind.i64.wrap (g.image - 1) = g.image - 1 := IntWalk.i64_in _ (by omega)
  have e2 : IntKind.i64.wrap (g.data - 1) = g.data - 1 := IntWalk.i64_in _ (by omega)
  have e3 : IntKind.i64.wrap (g.image - 1 - wordsS s) = g.image - 1 - wordsS s := IntWalk.i64_in _ (by omega)
  have e4 : IntKind.i64.wrap (g.data - 1 - (refsS s).length) = g.data - 1 - (refsS s).length := IntWalk.i64_in _ (by omega)
  refine calls_rx h14 Tryz.func14 rfl Tryz.mixed (by kernel_rfl) Tryz.results14 ?_
  unfold Geom.enc
  simp -dsimp [go_sem]
  generalize hW : w.alloc _ = W
  obtain ⟨E0, k0, z0⟩ := alloc1 hW
  clear hW
  refine (state_Words X b m s k hg hk W.drew ((h.keep k0).keep (keep_drew W))).mono ?_; rintro _ w1 ⟨rfl, k1⟩; refine ret_intro ?_
  have k01 := Keep.trans (keep_drew W) k1
  refine ⟨Keep.agree k01 (Agree.refl _), ?_⟩
  have h1w := (h.keep k0).keep k01
  try simp -dsimp [go_sem]
  refine (room_Pages X b m s k hg hk w1 h1w).mono ?_; rintro _ w2 ⟨rfl, k2⟩; refine ret_intro ?_
  have k02 := Keep.trans k01 k2
  refine ⟨Keep.agree k02 (Agree.refl _), ?_⟩
  have E0c := blk_cell E0; have E0f := blk_free E0; have E0l := blk_lt E0
  simp -dsimp [go_sem, E0c, E0f, E0l, e1, e2, e3, e4]
  exact ⟨⟨rfl, rfl⟩, Keep.trans k0 k02⟩
theorem room_Fits (X : Nat → Prop) (b m : Nat) (s : St) (k : Nat) (hg : Good k s) (hk : k ≤ 2 ^ 19) (g : Geom) (hs : g.small) (w : World) (h : StAt w X b m s) :
    Calls Tryz.prog 12 #[.agg g.enc.toArray, .pointer (some ⟨b, 0, none⟩)] w fun r w' => r = .returned (.bool (fitsS g s)) ∧ Keep w w' := by
  refine calls_rx h12 Tryz.func12 rfl Tryz.mixed (by kernel_rfl) Tryz.results12 ?_
  unfold Geom.enc
  simp -dsimp [go_sem]
  generalize hW : w.alloc _ = W
  obtain ⟨E0, k0, z0⟩ := alloc1 hW
  clear hW
  refine (room_Left X b m s k hg hk g hs W (h.keep k0)).mono ?_; rintro _ w1 ⟨rfl, k1⟩; refine ret_intro ?_
  unfold fitsS
  by_cases q1 : 0 ≤ leftW g s
  · by_cases q2 : 0 ≤ leftP g s
    · simp -dsimp [go_sem, q1, q2]
      exact Keep.trans k0 k1
    · simp -dsimp [go_sem, q1, q2]
      exact Keep.trans k0 k1
  · simp -dsimp [go_sem, q1]
    exact Keep.trans k0 k1
end Go.Proofs.YtdfjfagljngciaaGreat
