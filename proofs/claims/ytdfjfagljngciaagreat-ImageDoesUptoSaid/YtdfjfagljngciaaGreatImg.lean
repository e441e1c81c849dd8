/- Package image: the words of a state. -/
import Derived.Test.YtdfjfagljngciaaGreatWrt
import Derived.Test.YtdfjfagljngciaaGreatStl
set_option linter.all false
set_option maxRecDepth 100000
set_option maxHeartbeats 4000000
namespace Go.Proofs.YtdfjfagljngciaaGreat
open Go.RowKit Rx Go.MapKept

def bodyW (s : St) : List UInt64 := u64I s.last :: u64I s.L.length :: s.L.flatMap nodeW
def imageW (s : St) : List UInt64 := bodyW s ++ [sumL (bodyW s)]
theorem nodeW_le {n : Node} {k : Nat} (h : NodeOk k n) (hk : k ≤ 2 ^ 8) : (nodeW n).length ≤ 2 ^ 11 := by
  have h1 := h.pg
  have h2 := h.len
  have h6 : ∀ (L : List Entry), (∀ x ∈ L, x.name.size ≤ 24) → (L.flatMap nameW).length ≤ L.length * 6 := by
    intro L
    induction L with
    | nil => simp
    | cons y L ih =>
      intro hL
      have h1 := ih (fun z hz => hL z (List.mem_cons_of_mem _ hz))
      have h2 := hL y (List.mem_cons_self ..)
      have h3 : (nameW y).length ≤ 6 := by unfold nameW; rw [List.length_append, List.length_cons, packL_len]; simp; omega
      rw [List.flatMap_cons, List.length_append, List.length_cons]; omega
  have := h6 n.names (fun x hx => (h.nm x hx).1)
  unfold nodeW
  rw [List.length_append, List.length_append, List.length_map, List.length_map]
  have h8 : (headN n).length = 7 := rfl
  omega
theorem nodesW_le {k : Nat} {s : St} (h : Good k s) (hk : k ≤ 2 ^ 8) (i : Nat) : ((s.L.take i).flatMap nodeW).length ≤ 2 ^ 20 := by
  have h1 : ∀ (L : List Node), (∀ n ∈ L, (nodeW n).length ≤ 2 ^ 11) → (L.flatMap nodeW).length ≤ L.length * 2 ^ 11 := by
    intro L
    induction L with
    | nil => simp
    | cons y L ih =>
      intro hL
      have h1 := ih (fun z hz => hL z (List.mem_cons_of_mem _ hz))
      have h2 := hL y (List.mem_cons_self ..)
      rw [List.flatMap_cons, List.length_append, List.length_cons]; omega
  have h2 := h1 (s.L.take i) (fun n hn => nodeW_le (h.ok n (List.mem_of_mem_take hn)) hk)
  have h3 : (s.L.take i).length ≤ s.L.length := List.length_take_le' i s.L
  have h4 := h.len
  omega
theorem image_Put (X : Nat → Prop) (b m : Nat) (s : St) (k : Nat) (hg : Good k s) (hk : k ≤ 2 ^ 8) (w : World) (h : StAt w X b m s) :
    Calls Tryz.prog 26 #[.pointer (some ⟨b, 0, none⟩)] w fun r w' => ∃ u, r = .returned u ∧ Ow rWord 66 (fun _ => True) w' u (imageW s) ∧ Keep w w' ∧ ∀ g, ownB u = some g → w.heap.size ≤ g := by
  have hf := hg.fine (by omega)
  have hl40 : s.L.length ≤ 2 ^ 40 := Nat.le_trans hg.len (by omega)
  have hwb := words_bd hg (by omega)
  have hw0 : ¬ wordsS s = 0 := by
    have := (sumF_le (f := wordsN) (C := 2 ^ 40 + 71) (L := s.L) (fun n hn => (hg.ok n hn).words (by omega))).1
    unfold wordsS; omega
  refine calls_rx h26 Tryz.func26 rfl Tryz.mixed (by kernel_rfl) Tryz.results26 ?_
  simp -dsimp [go_sem]
  refine (state_Words X b m s k hg (by omega) w h).mono ?_; rintro _ w1 ⟨rfl, k1⟩; refine ret_intro ?_
  simp -dsimp [go_sem, hw0]
  generalize hW : ((w1.alloc _).alloc _).alloc _ = W
  obtain ⟨N0, A0, B0, k2, z2⟩ := alloc3 hW
  clear hW
  have k02 := Keep.trans k1 k2
  refine (state_Nodes (some ⟨b, 0, none⟩) W).mono ?_; rintro _ w2 ⟨p, rfl, P2, k3, hp1, hp2⟩; refine ret_intro ?_
  replace N0 := Step.blk k3 N0 (fun q => q); replace A0 := Step.blk k3 A0 (fun q => q); replace B0 := Step.blk k3 B0 (fun q => q)
  have k03 := Keep.trans k02 k3
  have l1 := k1.size
  have l3 := k3.size
  have h2 := h.wide (Y := fun k => k = w1.heap.size ∨ k = w1.heap.size + 1) k03 (fun k q => by omega)
  have hbm := h.size_b
  simp -dsimp [go_sem]
  refine range_intro (nodes_iter _ b m s hg.srt hf.sz hl40 w2 h2 p P2 (fun k => k = w1.heap.size ∨ k = w1.heap.size + 1) (fun k q => ⟨.inr q, by omega, by omega, by omega⟩)) nodes_eg
    (fun i A V => ∃ v, A = (fun k => (k = w1.heap.size ∨ k = w1.heap.size + 1) ∨ ownB v = some k) ∧ Step (fun k => k = w1.heap.size ∨ k = w1.heap.size + 1) w2 V ∧ V.heap[w1.heap.size]? = some (.cells #[.int .i64 (i : Nat)] 3 (0, 0)) ∧ WAt V (w1.heap.size + 1) v ((s.L.take i).flatMap nodeW) ∧ i ≤ s.L.length ∧ ∀ g, ownB v = some g → w2.heap.size + 1 < g ∧ g < V.heap.size)
    (fun _ _ => False) (by first | rfl | simp -dsimp [go_sem]) (by first | rfl | simp -dsimp [go_sem]) ?_ ?_ ?_ ?_ ?_ ?_ ?_
  · rintro i A V ⟨v, rfl, hs, hv, ho, hi, hb⟩ j q
    have := hs.size
    rcases q with q | q
    · exact ⟨by omega, by omega, by omega⟩
    · have := hb j q; exact ⟨by omega, by omega, by omega⟩
  · rintro i A V V' ⟨v, rfl, hs, hv, ho, hi, hb⟩ hst
    have := hst.size
    exact ⟨v, rfl, hs.trans hst (fun j hj q => by omega), hst.blk hv (by omega), ho.step hst (by omega) (fun g q q2 => by have := hb g q; omega), hi, fun g q => by have := hb g q; omega⟩
  · rintro e V V' q; exact q.elim
  · exact ⟨.slice none 0 0, by simp [ownB], Step.refl _ _, by simpa using N0, ⟨by simpa using A0, by simpa using Ow.nil _ _ _ _⟩, Nat.zero_le _, by simp [ownB]⟩
  · rintro i x A V vs hx ⟨v, rfl, hs, hv, ho, hi, hb⟩ ⟨pp, pq, rfl, nn, xok, b1, b2, bl⟩
    refine ⟨rfl, ?_⟩
    obtain ⟨pa, pc, ma, mc, rfl, rfl, -⟩ := nn.slices
    have hxm : x ∈ s.L := List.mem_of_getElem? hx
    have hxo := hg.ok x hxm
    have hil := (List.getElem?_eq_some_iff.1 hx).1
    unfold Node.enc
    simp -dsimp [go_sem]
    have lV : w2.heap.size + 1 < V.heap.size := bl _ (.inr (.inr rfl))
    generalize hW : V.alloc _ = V1
    obtain ⟨M1, k4, z4⟩ := alloc1 hW
    clear hW
    refine ⟨Keep.any k4, fun V2 s12 => ?_⟩
    have l12 := s12.size
    have M2 := s12.blk M1 (by omega)
    have c2 := s12.blk (k4.blk hv (fun q => q)) (by omega)
    have o2 := (ho.keep k4).step s12 (by omega) (fun g q q2 => by have := hb g q; omega)
    have n2 : NOw V2 x (.slice pa x.pages.length pc) (.slice ma x.names.length mc) := (nn.toNOw.keep k4).step s12 (fun g hg q => b1 g hg (.inr (.inr q))) (fun g hg q => b2 g hg (.inr (.inr q)))
    have r2 : rNode.R (fun k => k = w1.heap.size + 1 ∨ ownB v = some k) V2 x (x.enc (.slice pa x.pages.length pc) (.slice ma x.names.length mc)) :=
      n2.rep xok (fun g hg q => b1 g hg (.inl (q.elim (fun q => .inl (.inr q)) .inr))) (fun g hg q => b2 g hg (.inl (q.elim (fun q => .inl (.inr q)) .inr)))
    have M2c := blk_cell M2; have M2f := blk_free M2; have M2l := blk_lt M2
    simp -dsimp [go_sem, M2c, M2f, M2l]
    refine (image_put (fun k => k = w1.heap.size + 1 ∨ ownB v = some k) x _ (w1.heap.size + 1) v ((s.L.take i).flatMap nodeW) (Nat.le_trans (nodesW_le hg hk i) (by decide)) (Nat.le_trans hxo.pg (by decide)) (Nat.le_trans hxo.len (by omega)) (fun y hy => Nat.le_trans (hxo.nm y hy).1 (by decide)) V2 o2 r2 (.inl rfl) (fun g q => .inr q)).mono ?_
    rintro _ V3 ⟨⟨u3, rfl⟩, v3, h3, s3, b3⟩
    refine ret_intro ?_
    have hfl := flat_take (f := nodeW) hx
    rw [← hfl] at h3
    have c3 := s3.blk c2 (fun q => q.elim (fun q => by omega) (fun q => by have := hb _ q; omega))
    have l3' := s3.size
    have ei : IntKind.i64.wrap ((i : Int) + 1) = ((i + 1 : Nat) : Int) := by rw [IntWalk.i64_in _ (by omega)]; omega
    have c3c := blk_cell c3; have c3f := blk_free c3; have c3l := blk_lt c3
    simp -dsimp [go_sem, c3c, c3f, c3l, ei]
    have sW : Step (fun k => k = w1.heap.size) V3 (V3.setCell ⟨w1.heap.size, 0, none⟩ (.int .i64 ((i : Int) + 1))) := (Step.refl (fun k => k = w1.heap.size) V3).set (.inl rfl) _
    have lW := sW.size
    have hb3 : ∀ g, ownB v3 = some g → w2.heap.size + 1 < g ∧ g < V3.heap.size := fun g q => by
      have := h3.ho.lt q
      rcases b3 g q with q' | q'
      · have := hb g q'; omega
      · omega
    refine ⟨_, ⟨v3, rfl, ?_, blk_eq (blk_set c3 0 _) (by first | rfl | simp), h3.step sW (by omega) (fun g hg q => by have := hb3 g hg; omega), by omega, fun g hg => by have := hb3 g hg; omega⟩, ?_, fun j q => ?_⟩
    · exact (((hs.then k4).trans s12 (fun j hj q => by omega)).trans s3 (fun j hj q => q.elim (fun q => .inr q) (fun q => by have := hb j q; omega))).trans sW (fun j hj q => .inl q)
    · exact ((s3.mono (fun j _ q => q.elim (fun q => .inl (.inl (.inr q))) (fun q => .inl (.inr q)) : ∀ j, j < V2.heap.size → (j = w1.heap.size + 1 ∨ ownB v = some j) → (((j = w1.heap.size ∨ j = w1.heap.size + 1) ∨ ownB v = some j) ∨ V.heap.size ≤ j)))).trans sW (fun j _ q => .inl (.inl (.inl q)))
    · rcases q with q | q
      · exact .inl (.inl q)
      · rcases b3 j q with q' | q'
        · exact .inl (.inr q')
        · right; omega
  · rintro A V ⟨v, rfl, hs, hv, ho, hi, hb⟩ hd
    rw [List.take_length] at ho
    have kV : Keep w V := Step.keep k03 hs (fun j q => by omega)
    have hlf := nodesW_le hg hk s.L.length
    rw [List.take_length] at hlf
    generalize hFL : s.L.flatMap nodeW = FL at ho hlf
    have B1 := hs.blk B0 (by omega)
    have lVs := hs.size
    simp -dsimp [go_sem]
    refine (state_Last X b m s V (h.keep kV)).mono ?_
    rintro _ _ ⟨rfl, rfl⟩
    refine ret_intro ?_
    simp -dsimp [go_sem]
    refine (writer_Num (w1.heap.size + 1 + 1) (.slice none 0 0) [] s.last (by simp) V ⟨B1, Ow.nil _ _ _ _⟩).mono ?_
    rintro _ V1 ⟨⟨u1, rfl⟩, v1, h1, s1, b1⟩
    refine ret_intro ?_
    have c1 := s1.blk hv (fun q => q.elim (fun q => by omega) (fun q => by simp [ownB] at q))
    have n1 := ho.step s1 (fun q => q.elim (fun q => by omega) (fun q => by simp [ownB] at q)) (fun g hg q => q.elim (fun q => by have := hb g hg; omega) (fun q => by simp [ownB] at q))
    have c1c := blk_cell c1; have c1f := blk_free c1; have c1l := blk_lt c1
    simp -dsimp [go_sem, c1c, c1f, c1l]
    refine (writer_Num (w1.heap.size + 1 + 1) v1 _ (s.L.length : Nat) (by simp) V1 h1).mono ?_
    rintro _ V2 ⟨⟨u2, rfl⟩, v2, h2', s2, b2⟩
    refine ret_intro ?_
    have n2 := n1.step s2 (fun q => q.elim (fun q => by omega) (fun q => by have := b1 _ q; simp [ownB] at this; have := s1.size; omega)) (fun g hg q => q.elim (fun q => by have := hb g hg; omega) (fun q => by have := hb g hg; have := b1 _ q; simp [ownB] at this; omega))
    simp -dsimp [go_sem]
    have hl2 : ([] ++ [u64I s.last] ++ [u64I (s.L.length : Nat)]).length = 2 := rfl
    refine (writer_Words (w1.heap.size + 1 + 1) v2 _ (by rw [hl2]; omega) V2 h2').mono ?_
    rintro _ V3 ⟨u3, rfl, o3, k3', b3⟩
    refine ret_intro ?_
    simp -dsimp [go_sem]
    refine (writer_Words (w1.heap.size + 1) v _ (by omega) V3 (n2.keep k3')).mono ?_
    rintro _ V4 ⟨u4, rfl, o4, k4', b4⟩
    refine ret_intro ?_
    have o3' := o3.keep k4'
    obtain ⟨ua4, uc4, rfl, -⟩ := o4.slice
    obtain ⟨ua3, uc3, rfl, -⟩ := o3'.slice
    simp -dsimp [go_sem]
    refine app_flat 8 flat_word Tryz.underlying62 (by kernel_rfl) one_word o3' ((o4.all flat_word (Y := fun _ => False)).sl (fun _ _ q => q)) (by rw [hl2]; unfold maxLen; omega) (by rw [hl2]; omega) ?_
    intro v5 V5 o5 s5 b5
    have hbd : [] ++ [u64I s.last] ++ [u64I (s.L.length : Nat)] ++ FL = bodyW s := by rw [← hFL]; rfl
    rw [hbd] at o5
    have hbl : (bodyW s).length ≤ 2 ^ 21 := by rw [← hbd, List.length_append, hl2]; omega
    obtain ⟨ua5, uc5, rfl, -⟩ := o5.slice
    simp -dsimp [go_sem]
    refine (check_Seal (fun _ => False) _ (bodyW s) (by omega) V5 ((o5.all flat_word (Y := fun _ => False)).sl (fun _ _ q => q))).mono ?_
    rintro _ V6 ⟨u6, rfl, o6, k6, b6⟩
    refine ret_intro ?_
    have l1' := s1.size
    have l2' := s2.size
    have l3' := k3'.size
    have l4' := k4'.size
    have l5' := s5.size
    have hdl := blk_lt hd
    have l03 := k03.size
    have lVV := kV.size
    have hv1 : ∀ g, ownB v1 = some g → V.heap.size ≤ g := fun g q => by
      rcases b1 g q with q' | q'
      · simp [ownB] at q'
      · exact q'
    have kV2 : Keep w V2 := Step.keep (Step.keep kV s1 (fun j q => q.elim (fun q => by omega) (fun q => by simp [ownB] at q))) s2 (fun j q => q.elim (fun q => by omega) (fun q => by have := hv1 j q; omega))
    have kV6 : Keep w V6 := Keep.trans (Step.keep (Keep.trans kV2 (Keep.trans k3' k4')) s5 (fun j q => by have := b3 j q; omega)) k6
    have hd6 : V6.heap[w2.heap.size]? = some (.deferred (some [])) := by
      have d1 := s1.blk hd (fun q => q.elim (fun q => by omega) (fun q => by simp [ownB] at q))
      have d2 := s2.blk d1 (fun q => q.elim (fun q => by omega) (fun q => by have := hv1 _ q; omega))
      have d3 := s5.blk ((Keep.trans k3' k4').blk d2 (fun q => q)) (fun q => by have := b3 _ q; omega)
      exact k6.blk d3 (fun q => q)
    simp -dsimp [go_sem]
    refine end_intro hd6 ?_
    rintro V7 s7
    try simp -dsimp [go_sem]
    refine ⟨o6.flat flat_word s7 (fun g hg q => by have := b6 g hg; omega), Step.keep kV6 s7 (fun j q => by omega), fun g hg => by have := b6 g hg; omega⟩
  · rintro e V _ q; exact q.elim
end Go.Proofs.YtdfjfagljngciaaGreat
