/- The reference's words of a node, and of a state. -/
import Derived.Test.YtdfjfagljngciaaGreatSam
import Derived.Test.YtdfjfagljngciaaGreatApa
set_option linter.all false
set_option maxRecDepth 100000
set_option maxHeartbeats 4000000
namespace Go.Proofs.YtdfjfagljngciaaGreat
open Go.RowKit Rx Go.MapKept

theorem more_eq (s x : UInt64) : IntKind.u64.wrap (bits BinOp.xor IntKind.u64 (s.toNat : Int) (x.toNat : Int) * 1099511628211) = ((moreW s x).toNat : Int) := by
  rw [bits_xor_u64_nat _ _ s.toNat_lt x.toNat_lt, IntKind.wrap_u64]
  unfold moreW
  rw [UInt64.toNat_mul, UInt64.toNat_xor]
  show (_ : Int) % 18446744073709551616 = ((_ * 1099511628211 % 2 ^ 64 : Nat) : Int)
  omega
theorem ref_Sum64 (X : Nat → Prop) (v : Value) (l : List UInt64) (w : World) (h : Sl rWord X w v l) :
    Calls Tryz.prog 63 #[v] w fun r w' => r = .returned (.int .u64 (sumL l).toNat) ∧ Keep w w' := by
  obtain ⟨a, c, rfl, -⟩ := id h
  have hmx := h.len
  unfold maxLen at hmx
  refine calls_rx h63 Tryz.func63 rfl Tryz.mixed (by kernel_rfl) Tryz.results63 ?_
  simp -dsimp [go_sem]
  refine loop_intro (σ := Nat) (fun i => [.int .u64 (sumL (l.take i)).toNat, .int .i64 i]) (fun i w' => i ≤ l.length ∧ w = w') (fun i => l.length - i) 0 (by simp -dsimp [go_sem]; rfl) (by simp -dsimp [go_sem]; first | rfl | decide) ⟨Nat.zero_le _, rfl⟩ ?_
  rintro i _ ⟨hi, rfl⟩
  simp -dsimp [go_sem]
  by_cases g1 : i < l.length
  rotate_left
  · obtain rfl : i = l.length := by omega
    rw [List.take_length]
    simp -dsimp [go_sem, Nat.lt_irrefl]
    exact Keep.refl w
  have hx : l[i]? = some l[i] := List.getElem?_eq_getElem _
  generalize l[i] = x at hx
  obtain ⟨b, off, c', e, hb, -, hc⟩ := h.word hx
  cases e
  have i2 : (i : Int) < l.length := by omega
  have hsn : sumL (l.take (i + 1)) = moreW (sumL (l.take i)) x := by unfold sumL; rw [List.take_add_one, hx, List.foldl_append]; rfl
  simp -dsimp [go_sem, g1, i2, hb, hc]
  rw [more_eq, ← hsn]
  try simp -dsimp (disch := omega) only [IntWalk.i64_in, IntWalk.u64_in, IntWalk.u8_in]
  exact back_intro (i + 1) (by simp -dsimp [go_sem]) (by simp -dsimp [go_sem]) ⟨by omega, rfl⟩ (by omega)
/-- Two appends, one behind the other. -/
theorem app_text {W : World} {va ta : Option Addr} {vc tc : Nat} {l t : List UInt64} (o1 : Ow rWord 66 (fun _ => True) W (.slice va l.length vc) l) (ot : Ow rWord 66 (fun _ => True) W (.slice ta t.length tc) t) (hl : l.length + t.length ≤ 2 ^ 43)
    {k : Value → World → Prop} {tk : Tag k} (hk : ∀ v' w', Ow rWord 66 (fun _ => True) w' v' (l ++ t) → Step (fun g => ownB (.slice va l.length vc) = some g) W w' → (∀ g, ownB v' = some g → (ownB (.slice va l.length vc) = some g ∨ W.heap.size ≤ g) ∧ g < w'.heap.size) → k v' w') :
    appF Tryz.prog #[62, 62] 62 (Shut k tk) (.slice va l.length vc) (.slice ta t.length tc) W := by
  refine app_flat 8 flat_word Tryz.underlying62 (by kernel_rfl) one_word o1 ((ot.all flat_word (Y := fun _ => False)).sl (fun j hj q => q)) (by unfold maxLen; omega) (by omega) ?_
  intro v' w' h1 k2 b2
  exact hk v' w' h1 k2 (fun g hg => ⟨b2 g hg, h1.lt hg⟩)
theorem app_word {W : World} {v : Value} {l : List UInt64} {x : UInt64} {g : Nat} (hb : W.heap[g]? = some (.cells #[.int .u64 x.toNat] 66 (0, 0))) (o1 : Ow rWord 66 (fun _ => True) W v l) (hl : l.length ≤ 2 ^ 43)
    {k : Value → World → Prop} {tk : Tag k} (hk : ∀ v' w', Ow rWord 66 (fun _ => True) w' v' (l ++ [x]) → Step (fun g => ownB v = some g) W w' → (∀ g, ownB v' = some g → (ownB v = some g ∨ W.heap.size ≤ g) ∧ g < w'.heap.size) → k v' w') :
    appF Tryz.prog #[62, 62] 62 (Shut k tk) v (.slice (some ⟨g, 0, none⟩) 1 1) W := by
  refine app_flat 8 flat_word Tryz.underlying62 (by kernel_rfl) one_word o1 (Sl.of_blk (X := fun _ => False) (r := rWord) (l := [x]) hb id (Cs.one (r := rWord) rfl) rfl (by show 1 ≤ maxLen; unfold maxLen; omega)) (by rw [List.length_singleton]; unfold maxLen; omega) (by rw [List.length_singleton]; omega) ?_
  intro v' w' h1 k2 b2
  exact hk v' w' h1 k2 (fun g hg => ⟨b2 g hg, h1.lt hg⟩)
theorem app_last {w W : World} {ya : Option Addr} {yc n : Nat} {l : List UInt64} {x : UInt64} {g : Nat} (hn : l.length = n) (hb : W.heap[g]? = some (.cells #[.int .u64 x.toNat] 66 (0, 0))) (o1 : Ow rWord 66 (fun _ => True) W (.slice ya l.length yc) l) (hl : l.length ≤ 2 ^ 40) (kw : Keep w W) (hw : w.heap.size < W.heap.size) (hf : ∀ j, ownB (.slice ya l.length yc) = some j → w.heap.size < j)
    {k : Value → World → Prop} {tk : Tag k} (hk : ∀ va vc w', Ow rWord 66 (fun _ => True) w' (.slice va (n + 1) vc) (l ++ [x]) → Keep w w' → (∀ j, ownB (.slice va (n + 1) vc) = some j → w.heap.size < j) → k (.slice va (n + 1) vc) w') :
    appF Tryz.prog #[62, 62] 62 (Shut k tk) (.slice ya n yc) (.slice (some ⟨g, 0, none⟩) 1 1) W := by
  subst hn
  refine app_word hb o1 (by omega) ?_
  intro v' w' h1 s1 b1
  obtain ⟨va, vc, rfl, -⟩ := h1.slice
  have hlen : (l ++ [x]).length = l.length + 1 := by simp
  rw [hlen] at h1 b1 ⊢
  have hgl := blk_lt hb
  have hs := kw.size
  exact hk va vc w' h1 (Step.keep kw s1 (fun j q => by have := hf j q; omega)) (fun j hj => by
    rcases (b1 j hj).1 with q | q
    · exact hf j q
    · omega)
@[go_sem] def hRn : Rx.Hints := { loops := [(3, ⟨[3, 35], [1, 33, 34]⟩), (8, ⟨[3, 48], [46, 47]⟩)], blanks := [(10, .take 0 (.take 1 (.take 2 (.take 5 (.take 6 (.take 7 (.alt 3 (.alt 4 (.act 8 (.fin 9 (.fin 10 .done))) (.act 8 (.act 4 (.fin 9 (.fin 10 .done))))) (.act 8 (.act 3 (.act 4 (.fin 9 (.fin 10 .done))))))))))))], rjoins := [(10, ⟨[3], [46, 47, 48]⟩)] }
theorem ref_NodeW (X : Nat → Prop) (n : Node) (cs : List Value) (hp : n.pages.length ≤ 2 ^ 20) (hn : n.names.length ≤ 2 ^ 20) (hnm : ∀ x ∈ n.names, x.name.size ≤ 2 ^ 20) (w : World) (hr : rNode.R X w n cs) :
    Calls Tryz.prog 35 #[.agg cs.toArray] w fun r w' => ∃ u, r = .returned u ∧ Ow rWord 66 (fun _ => True) w' u (nodeW n) ∧ Keep w w' ∧ ∀ g, ownB u = some g → w.heap.size ≤ g := by
  obtain ⟨p, m, rfl, hp0, hm0, hok⟩ := id hr
  obtain ⟨pa, pc, rfl, -⟩ := id hp0
  obtain ⟨ma, mc, rfl, -⟩ := id hm0
  refine calls_rx hRn Tryz.func35 rfl Tryz.mixed (by kernel_rfl) Tryz.results35 ?_
  unfold Node.enc
  simp -dsimp [go_sem]
  simp only [u64I_wrap]
  generalize hW : (w.alloc _).alloc _ = W
  obtain ⟨N0, C0, k0, z0⟩ := alloc2 hW
  clear hW
  have hH : (headN n).length = 7 := rfl
  have o0 : Ow rWord 66 (fun _ => True) W (.slice (some ⟨w.heap.size + 1, 0, none⟩) 7 7) ((headN n).map u64I) := .inr ⟨((headN n).map u64I).map (fun x => Value.int .u64 x.toNat), ⟨rfl, .inr ⟨w.heap.size + 1, 0, 7, _, rfl, C0, Nat.le_refl _, by decide, by show 0 + 7 * 1 ≤ 7; omega, rfl⟩⟩, cs_words _⟩
  generalize hL : (headN n).map u64I = L at o0
  have hLl : L.length = 7 := by rw [← hL]; rfl
  refine loop_intro (σ := Nat × Value) (fun t => [t.2, .int .i64 t.1]) (fun t w' => t.1 ≤ n.pages.length ∧ (Keep w w' ∧ w'.heap[w.heap.size]? = some (.cells #[.int .i64 n.ino, .int .i64 n.kind, .int .i64 n.links, .int .i64 n.size, .int .i64 n.up, .slice pa n.pages.length pc, .slice ma n.names.length mc] 42 (0, 0))) ∧ Ow rWord 66 (fun _ => True) w' t.2 (L ++ (n.pages.take t.1).map u64I) ∧ ∀ g, ownB t.2 = some g → w.heap.size < g) (fun t => n.pages.length - t.1) (0, .slice (some ⟨w.heap.size + 1, 0, none⟩) 7 7) (by simp -dsimp [go_sem]; rfl) (by simp -dsimp [go_sem]) ⟨by omega, ⟨k0, N0⟩, by simpa using o0, fun g hg => by simp [ownB] at hg; omega⟩ ?_
  clear o0
  rintro ⟨i, u⟩ w1 ⟨hi, ⟨k1, N1⟩, o1, b1⟩
  simp only at hi o1 b1
  obtain ⟨ua, uc, rfl, -⟩ := o1.slice
  have hl1 : (L ++ (n.pages.take i).map u64I).length = 7 + i := by rw [List.length_append, List.length_map, List.length_take, hLl]; omega
  rw [hl1] at o1 b1 ⊢
  simp -dsimp [go_sem]
  by_cases g1 : i < n.pages.length
  · have hx : n.pages[i]? = some n.pages[i] := List.getElem?_eq_getElem _
    generalize n.pages[i] = x at hx
    obtain ⟨b, off, c', e, hb, -, hc, hx64⟩ := (hp0.keep k1).int hx
    cases e
    have i2 : (i : Int) < n.pages.length := by omega
    simp -dsimp [go_sem, g1, i2, hb, hc]
    simp only [u64I_wrap]
    generalize hW : w1.alloc _ = w2
    obtain ⟨X2, k2, z2⟩ := alloc1 hW
    clear hW
    refine app_word X2 (o1.keep k2) (by omega) ?_
    intro v3 w3 o3 s3 b3
    have hnx : L ++ (n.pages.take i).map u64I ++ [u64I x] = L ++ (n.pages.take (i + 1)).map u64I := by rw [List.take_add_one, hx]; simp
    rw [hnx] at o3
    have hl3 : (L ++ (n.pages.take (i + 1)).map u64I).length = 7 + (i + 1) := by rw [List.length_append, List.length_map, List.length_take, hLl]; omega
    obtain ⟨va, vc, rfl, -⟩ := o3.slice
    rw [hl3] at o3 b3 ⊢
    have l1 := k1.size
    have b1' : ∀ g, ownB (.slice ua (7 + i) uc) = some g → w.heap.size < g := b1
    simp -dsimp [go_sem]
    try simp -dsimp (disch := omega) only [IntWalk.i64_in, IntWalk.u64_in, IntWalk.u8_in]
    refine back_intro (i + 1, .slice va (7 + (i + 1)) vc) (by simp -dsimp [go_sem]) (by simp -dsimp [go_sem]) ⟨by omega, ⟨?_, ?_⟩, by simpa only [List.map_take] using o3, fun g hg => ?_⟩ (by simp only; omega)
    · exact Step.keep (Keep.trans k1 k2) s3 (fun j q => by have := b1' j q; omega)
    · exact s3.blk (k2.blk N1 (fun q => q)) (fun q => by have := b1' _ q; omega)
    · rcases (b3 g hg).1 with q | q
      · exact b1' g q
      · omega
  obtain rfl : i = n.pages.length := by omega
  rw [List.take_length] at o1 hl1
  generalize hA : L ++ n.pages.map u64I = A at o1 hl1
  have N1c := blk_cell N1; have N1f := blk_free N1; have N1l := blk_lt N1
  simp -dsimp [go_sem, N1c, N1f, N1l, Nat.lt_irrefl]
  rw [← hl1] at o1 b1 ⊢
  have hfl : ∀ i, ((n.names.take i).flatMap nameW).length ≤ i * 262144 := fun i => by
    have h6 : ∀ (K : List Entry), (∀ x ∈ K, x.name.size ≤ 2 ^ 20) → (K.flatMap nameW).length ≤ K.length * 262144 := by
      intro K
      induction K with
      | nil => simp
      | cons y K ih =>
        intro hK
        have h1 := ih (fun z hz => hK z (List.mem_cons_of_mem _ hz))
        have h2 := hK y (List.mem_cons_self ..)
        have h4 := packL_len y.name.data.toList
        have h5 : y.name.data.toList.length = y.name.size := by simp
        have h3 : (nameW y).length ≤ 262144 := by unfold nameW; rw [List.length_append, List.length_cons, List.length_singleton]; omega
        rw [List.flatMap_cons, List.length_append, List.length_cons]; omega
    have := h6 (n.names.take i) (fun x hx => hnm x (List.mem_of_mem_take hx))
    have h7 : (n.names.take i).length ≤ i := by rw [List.length_take]; omega
    exact Nat.le_trans this (Nat.mul_le_mul_right _ h7)
  refine loop_intro (σ := Nat × Value) (fun t => [t.2, .int .i64 t.1]) (fun t w' => t.1 ≤ n.names.length ∧ Keep w w' ∧ Ow rWord 66 (fun _ => True) w' t.2 (A ++ (n.names.take t.1).flatMap nameW) ∧ ∀ g, ownB t.2 = some g → w.heap.size < g) (fun t => n.names.length - t.1) (0, .slice ua A.length uc) (by simp -dsimp [go_sem]; rfl) (by simp -dsimp [go_sem]) ⟨by omega, k1, by simpa using o1, b1⟩ ?_
  clear o1 b1 k1 N1 N1c N1f N1l
  rintro ⟨i, u⟩ w2 ⟨hi, k2, o2, b2⟩
  simp only at hi o2 b2
  have hfi := hfl i
  obtain ⟨va, vc, rfl, -⟩ := o2.slice
  generalize hB : A ++ (n.names.take i).flatMap nameW = B at o2 b2 ⊢
  have hBl : B.length ≤ 2 ^ 39 := by rw [← hB, List.length_append, hl1]; omega
  simp -dsimp [go_sem]
  by_cases g1 : i < n.names.length
  rotate_left
  · obtain rfl : i = n.names.length := by omega
    rw [List.take_length] at hB
    simp -dsimp [go_sem, Nat.lt_irrefl]
    have he : nodeW n = B := by rw [← hB, ← hA, ← hL]; unfold nodeW; simp
    rw [he]
    exact ⟨o2, k2, fun g hg => Nat.le_of_lt (b2 g hg)⟩
  have hx : n.names[i]? = some n.names[i] := List.getElem?_eq_getElem _
  generalize n.names[i] = x at hx
  obtain ⟨b6, off6, c6', e6, hb6, -, hx64, hc6, hc7⟩ := (hm0.keep k2).entry hx
  cases e6
  have hxs := hnm x (List.mem_of_getElem? hx)
  have i2 : (i : Int) < n.names.length := by omega
  simp -dsimp [go_sem, g1, i2, hb6, hc6, hc7]
  generalize hW : w2.alloc _ = w3
  obtain ⟨E3, k3, z3⟩ := alloc1 hW
  clear hW
  have hnx : B ++ (UInt64.ofNat x.name.size :: packL x.name.data.toList) ++ [u64I x.ino] = A ++ (n.names.take (i + 1)).flatMap nameW := by
    rw [List.take_add_one, hx, ← hB]; simp [nameW]
  have b2' : ∀ g, ownB (.slice va B.length vc) = some g → w.heap.size < g := b2
  have l2 := k2.size
  have k03 := Keep.trans k2 k3
  have kd := keep_drew w3
  have htl : (UInt64.ofNat x.name.size :: packL x.name.data.toList).length ≤ 262144 := by
    have h4 := packL_len x.name.data.toList
    have h5 : x.name.data.toList.length = x.name.size := by simp
    rw [List.length_cons]; omega
  generalize hTX : UInt64.ofNat x.name.size :: packL x.name.data.toList = TX at hnx htl
  have hbx : (B ++ TX).length ≤ 2 ^ 40 := by rw [List.length_append]; omega
  refine join_intro (σ := Value) (fun u => [u]) (fun u w' => Keep w w' ∧ Ow rWord 66 (fun _ => True) w' u (B ++ TX ++ [u64I x.ino]) ∧ ∀ g, ownB u = some g → w.heap.size < g) (by simp -dsimp [go_sem]; rfl) ?_ ?_
  · obtain ⟨hk', hk1, hk2⟩ : ∃ hk' : Nat, (∀ g, ownB (.slice va B.length vc) = some g → g = hk') ∧ hk' ≠ w2.heap.size := by
      cases hq : ownB (.slice va B.length vc) with
      | none => exact ⟨w2.heap.size + 1, by simp, by omega⟩
      | some g => have := o2.lt hq; exact ⟨g, by simp, by omega⟩
    simp -dsimp [go_sem]
    refine blankF_intro (holed w3 hk') (holed_agree (fun _ _ _ => rfl)) ?_
    have E4 := (holed_blk (w := w3) (b := hk') (by omega)).trans E3
    have E4c := blk_cell E4; have E4f := blk_free E4; have E4l := blk_lt E4
    simp -dsimp [go_sem, E4c, E4f, E4l]
    have hblt : ∀ g, ownB (.slice va B.length vc) = some g → g < w2.heap.size := fun g hg => o2.lt hg
    have l3 := k3.size
    refine ⟨?_, ?_, ?_⟩
    · refine (ref_Text x.name (by omega) w3.drew).mono ?_
      rintro _ w4 ⟨tu, rfl, ot, k4, bt⟩
      refine ret_intro ?_
      rw [hTX] at ot
      obtain ⟨ta, tc, rfl, -⟩ := ot.slice
      have q4 := Keep.trans kd k4
      have l4 := q4.size
      refine ⟨holed_agree (fun j hj hne => q4.block j hj (fun q => q)), ?_⟩
      simp -dsimp [go_sem, E4c, E4f, E4l]
      have o4 : Ow rWord 66 (fun _ => True) w4 (.slice va B.length vc) B := (o2.keep k3).keep q4
      refine ⟨?_, ?_, ?_⟩
      · refine app_text o4 ot (by rw [List.length_append] at hbx; omega) ?_
        intro v5 w5 o5 s5 b5
        obtain ⟨ya, yc, rfl, -⟩ := o5.slice
        rw [List.length_append] at o5 b5 ⊢
        have hT : (B ++ TX).length = B.length + TX.length := List.length_append
        have b5' : ∀ j, ownB (.slice ya (B ++ TX).length yc) = some j → w.heap.size < j := fun j hj => by
          rw [hT] at hj
          rcases (b5 j hj).1 with q | q
          · exact b2' j q
          · omega
        have s35 : ∀ j, j < w3.heap.size → j ≠ hk' → w5.heap[j]? = w3.heap[j]? := fun j hj hne => (s5.block j (by omega) (fun q => hne (hk1 j q))).trans (q4.block j hj (fun q => q))
        have l5 := s5.size
        have k05 : Keep w w5 := Step.keep (Keep.trans k03 q4) s5 (fun j q => by have := b2' j q; omega)
        simp -dsimp [go_sem, E4c, E4f, E4l]
        refine ⟨holed_agree s35, holed_agree (fun j hj hne => (heap_alloc_old w5 _ (by omega)).trans (s35 j hj hne)), ?_⟩
        generalize hW : w5.alloc _ = w6
        obtain ⟨X6, k6, z6⟩ := alloc1 hW
        clear hW
        rw [u64I_wrap] at X6
        refine app_last (w := w) (l := B ++ TX) hT X6 (by rw [hT]; exact o5.keep k6) hbx (Keep.trans k05 k6) (by omega) b5' ?_
        rintro za zc w9 o9 k9 f9
        simp -dsimp [go_sem]
        exact meet_intro _ (by simp -dsimp [go_sem]) (by simp -dsimp [go_sem]) ⟨k9, by simpa using o9, f9⟩
      · exact holed_agree (fun j hj hne => (q4.alloc _).block j hj (fun q => q))
      · generalize hW : w4.alloc _ = w5
        obtain ⟨X5, k5, z5⟩ := alloc1 hW
        clear hW
        rw [u64I_wrap] at X5
        refine app_text (o4.keep k5) (ot.keep k5) (by rw [List.length_append] at hbx; omega) ?_
        intro v6 w6 o6 s6 b6'
        have X6 := s6.blk X5 (fun q => by have := hblt _ q; omega)
        obtain ⟨ya, yc, rfl, -⟩ := o6.slice
        rw [List.length_append] at o6 b6' ⊢
        have hT : (B ++ TX).length = B.length + TX.length := List.length_append
        have b6'' : ∀ j, ownB (.slice ya (B ++ TX).length yc) = some j → w.heap.size < j := fun j hj => by
          rw [hT] at hj
          rcases (b6' j hj).1 with q | q
          · exact b2' j q
          · omega
        have l6 := s6.size
        have k06 : Keep w w6 := Step.keep (Keep.trans (Keep.trans k03 q4) k5) s6 (fun j q => by have := b2' j q; omega)
        simp -dsimp [go_sem, E4c, E4f, E4l]
        refine ⟨holed_agree (fun j hj hne => (s6.block j (by omega) (fun q => hne (hk1 j q))).trans ((Keep.trans q4 k5).block j hj (fun q => q))), ?_⟩
        refine app_last (w := w) (l := B ++ TX) hT X6 (by rw [hT]; exact o6) hbx k06 (by omega) b6'' ?_
        rintro za zc w9 o9 k9 f9
        simp -dsimp [go_sem]
        exact meet_intro _ (by simp -dsimp [go_sem]) (by simp -dsimp [go_sem]) ⟨k9, by simpa using o9, f9⟩
    · exact holed_agree (fun j hj hne => ((Keep.refl w3).alloc _).drew.block j hj (fun q => q))
    · generalize hW : (w3.alloc _) = w4
      obtain ⟨X4, k4, z4⟩ := alloc1 hW
      clear hW
      rw [u64I_wrap] at X4
      have kd4 := keep_drew w4
      refine (ref_Text x.name (by omega) w4.drew).mono ?_
      rintro _ w5 ⟨tu, rfl, ot, k5, bt⟩
      refine ret_intro ?_
      rw [hTX] at ot
      obtain ⟨ta, tc, rfl, -⟩ := ot.slice
      have q5 := Keep.trans kd4 k5
      have l5 := q5.size
      have o5 : Ow rWord 66 (fun _ => True) w5 (.slice va B.length vc) B := ((o2.keep k3).keep k4).keep q5
      refine ⟨holed_agree (fun j hj hne => (Keep.trans k4 q5).block j hj (fun q => q)), ?_⟩
      simp -dsimp [go_sem, E4c, E4f, E4l]
      refine app_text o5 ot (by rw [List.length_append] at hbx; omega) ?_
      intro v6 w6 o6 s6 b6'
      have X6 := s6.blk (q5.blk X4 (fun q => q)) (fun q => by have := hblt _ q; omega)
      obtain ⟨ya, yc, rfl, -⟩ := o6.slice
      rw [List.length_append] at o6 b6' ⊢
      have hT : (B ++ TX).length = B.length + TX.length := List.length_append
      have b6'' : ∀ j, ownB (.slice ya (B ++ TX).length yc) = some j → w.heap.size < j := fun j hj => by
        rw [hT] at hj
        rcases (b6' j hj).1 with q | q
        · exact b2' j q
        · omega
      have l6 := s6.size
      have k06 : Keep w w6 := Step.keep (Keep.trans (Keep.trans k03 k4) q5) s6 (fun j q => by have := b2' j q; omega)
      simp -dsimp [go_sem, E4c, E4f, E4l]
      refine ⟨holed_agree (fun j hj hne => (s6.block j (by omega) (fun q => hne (hk1 j q))).trans ((Keep.trans k4 q5).block j hj (fun q => q))), ?_⟩
      refine app_last (w := w) (l := B ++ TX) hT X6 (by rw [hT]; exact o6) hbx k06 (by omega) b6'' ?_
      rintro za zc w9 o9 k9 f9
      simp -dsimp [go_sem]
      exact meet_intro _ (by simp -dsimp [go_sem]) (by simp -dsimp [go_sem]) ⟨k9, by simpa using o9, f9⟩
  rintro u w9 ⟨k9, o9, b9⟩
  rw [hnx] at o9
  obtain ⟨ya, yc, rfl, -⟩ := o9.slice
  simp -dsimp [go_sem]
  try simp -dsimp (disch := omega) only [IntWalk.i64_in, IntWalk.u64_in, IntWalk.u8_in]
  exact back_intro (i + 1, .slice ya (A ++ (n.names.take (i + 1)).flatMap nameW).length yc) (by simp -dsimp [go_sem]) (by simp -dsimp [go_sem]) ⟨by omega, k9, o9, b9⟩ (by simp only; omega)
theorem ref_Image (X : Nat → Prop) (b : Nat) (v : Value) (s : St) (k : Nat) (hg : Good k s) (hk : k ≤ 2 ^ 8) (w : World) (h : RAt w X b v s) :
    Calls Tryz.prog 33 #[.pointer (some ⟨b, 0, none⟩)] w fun r w' => ∃ u, r = .returned u ∧ Ow rWord 66 (fun _ => True) w' u (imageW s) ∧ Keep w w' ∧ ∀ g, ownB u = some g → w.heap.size ≤ g := by
  have hgl := hg.len
  have H0 := h.hb
  obtain ⟨a, c, rfl, -⟩ := h.ho.slice
  refine calls_rx h33 Tryz.func33 rfl Tryz.mixed (by kernel_rfl) Tryz.results33 ?_
  have H0c := blk_cell H0; have H0f := blk_free H0; have H0l := blk_lt H0
  simp -dsimp [go_sem, H0c, H0f, H0l]
  simp only [u64I_wrap]
  generalize hW : (w.alloc _) = W
  obtain ⟨C0, k0, z0⟩ := alloc1 hW
  clear hW
  refine ⟨Keep.agree (Keep.trans k0 (keep_drew W)) (Agree.refl _), ?_⟩
  have k01 := Keep.trans k0 (keep_drew W)
  have C1 := (keep_drew W).blk C0 (fun q => q)
  have o0 : Ow rWord 66 (fun _ => True) W.drew (.slice (some ⟨w.heap.size, 0, none⟩) 2 2) [u64I s.last, u64I s.L.length] := .inr ⟨[u64I s.last, u64I s.L.length].map (fun x => Value.int .u64 x.toNat), ⟨rfl, .inr ⟨w.heap.size, 0, 2, _, rfl, C1, Nat.le_refl _, by decide, by show 0 + 2 * 1 ≤ 2; omega, rfl⟩⟩, cs_words _⟩
  generalize hL : [u64I s.last, u64I s.L.length] = L at o0
  have hLl : L.length = 2 := by rw [← hL]; rfl
  refine loop_intro (σ := Nat × Value) (fun t => [t.2, .int .i64 t.1]) (fun t w' => t.1 ≤ s.L.length ∧ Keep w w' ∧ Ow rWord 66 (fun _ => True) w' t.2 (L ++ (s.L.take t.1).flatMap nodeW) ∧ ∀ g, ownB t.2 = some g → w.heap.size ≤ g) (fun t => s.L.length - t.1) (0, .slice (some ⟨w.heap.size, 0, none⟩) 2 2) (by simp -dsimp [go_sem]; rfl) (by simp -dsimp [go_sem]) ⟨by omega, k01, by simpa using o0, fun g hg => by simp [ownB] at hg; omega⟩ ?_
  clear o0
  rintro ⟨i, u⟩ w1 ⟨hi, k1, o1, b1⟩
  simp only at hi o1 b1
  have hfi := nodesW_le hg hk i
  obtain ⟨ua, uc, rfl, -⟩ := o1.slice
  generalize hB : L ++ (s.L.take i).flatMap nodeW = B at o1 b1 ⊢
  have hBl : B.length ≤ 2 ^ 21 := by rw [← hB, List.length_append, hLl]; omega
  have b1' : ∀ g, ownB (.slice ua B.length uc) = some g → w.heap.size ≤ g := b1
  simp -dsimp [go_sem]
  by_cases g1 : i < s.L.length
  rotate_left
  · obtain rfl : i = s.L.length := by omega
    rw [List.take_length] at hB
    have hbw : B = bodyW s := by rw [← hB, ← hL]; rfl
    simp -dsimp [go_sem, Nat.lt_irrefl]
    refine (ref_Sum64 (fun _ => False) _ B w1 ((o1.all flat_word (Y := fun _ => False)).sl (fun _ _ q => q))).mono ?_; rintro _ w2 ⟨rfl, k2⟩; refine ret_intro ?_
    simp -dsimp [go_sem]
    generalize hW : w2.alloc _ = w3
    obtain ⟨X3, k3, z3⟩ := alloc1 hW
    clear hW
    refine app_word X3 ((o1.keep k2).keep k3) (by omega) ?_
    intro v4 w4 o4 s4 b4
    obtain ⟨va, vc, rfl, -⟩ := o4.slice
    have hT : (B ++ [sumL B]).length = B.length + 1 := by simp
    rw [hT] at o4 b4 ⊢
    simp -dsimp [go_sem]
    have hi2 : imageW s = B ++ [sumL B] := by rw [hbw]; rfl
    rw [hi2]
    have l1 := k1.size
    have l2 := k2.size
    exact ⟨o4, Step.keep (Keep.trans k1 (Keep.trans k2 k3)) s4 (fun j q => b1' j q), fun g hg => by
      rcases (b4 g hg).1 with q | q
      · exact b1' g q
      · omega⟩
  have hxx : s.L[i]? = some s.L[i] := List.getElem?_eq_getElem _
  generalize s.L[i] = x at hxx
  have h1 := h.keep k1
  obtain ⟨g, off, c', p, m, e, hgl', hgo, hok, hp, hm, c0, c1, c2, c3, c4, c5, c6, hf, -⟩ := h1.ho.node h1.xv hxx
  cases e
  obtain ⟨pa, pc, rfl, -⟩ := id hp
  obtain ⟨ma, mc, rfl, -⟩ := id hm
  have i2 : (i : Int) < s.L.length := by omega
  simp -dsimp [go_sem, g1, i2, hgl', c0, c1, c2, c3, c4, c5, c6]
  generalize hW : w1.alloc _ = w2
  obtain ⟨N2, k2, z2⟩ := alloc1 hW
  clear hW
  have N2c := blk_cell N2; have N2f := blk_free N2; have N2l := blk_lt N2
  try simp -dsimp [go_sem, N2c, N2f, N2l]
  have hnok := hg.ok x (List.mem_of_getElem? hxx)
  have hpg := hnok.pg
  have hnl := hnok.len
  refine (ref_NodeW X x (x.enc (.slice pa x.pages.length pc) (.slice ma x.names.length mc)) (by omega) (by omega) (fun y hy => by have := (hnok.nm y hy).1; omega) w2 (rNode.keep ⟨_, _, rfl, hp, hm, hok⟩ k2)).mono ?_
  rintro _ w3 ⟨nu, rfl, on, k3, bn⟩
  refine ret_intro ?_
  obtain ⟨na, nc, rfl, -⟩ := on.slice
  have hnx : B ++ nodeW x = L ++ (s.L.take (i + 1)).flatMap nodeW := by rw [← hB, List.take_add_one, hxx]; simp
  have hnw := nodeW_le hnok hk
  generalize nodeW x = NW at on bn hnx hnw
  simp -dsimp [go_sem]
  refine app_text ((o1.keep k2).keep k3) on (by omega) ?_
  intro v4 w4 o4 s4 b4
  obtain ⟨va, vc, rfl, -⟩ := o4.slice
  rw [hnx] at o4 b4 ⊢
  have l1 := k1.size
  have l2 := k2.size
  have l3 := k3.size
  generalize hB2 : L ++ (s.L.take (i + 1)).flatMap nodeW = B2 at o4 b4 ⊢
  simp -dsimp [go_sem]
  try simp -dsimp (disch := omega) only [IntWalk.i64_in, IntWalk.u64_in, IntWalk.u8_in]
  refine back_intro (i + 1, .slice va B2.length vc) (by simp -dsimp [go_sem]) (by simp -dsimp [go_sem]) ⟨by omega, Step.keep (Keep.trans k1 (Keep.trans k2 k3)) s4 (fun j q => b1' j q), by rw [hB2]; exact o4, fun j hj => ?_⟩ (by simp only; omega)
  rcases (b4 j hj).1 with q | q
  · exact b1' j q
  · omega
end Go.Proofs.YtdfjfagljngciaaGreat
