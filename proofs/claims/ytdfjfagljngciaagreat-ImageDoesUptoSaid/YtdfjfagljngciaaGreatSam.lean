/- The reference: whether nodes, and states, are alike. Whether a state is as the reference's. -/
import Derived.Test.YtdfjfagljngciaaGreatRa
import Derived.Test.YtdfjfagljngciaaGreatRe
import Derived.Test.YtdfjfagljngciaaGreatStl
set_option linter.all false
set_option maxRecDepth 100000
set_option maxHeartbeats 4000000
namespace Go.Proofs.YtdfjfagljngciaaGreat
open Go.RowKit Rx Go.MapKept

theorem node_ext {a b : Node} (h1 : a.ino = b.ino) (h2 : a.kind = b.kind) (h3 : a.links = b.links) (h4 : a.size = b.size) (h5 : a.up = b.up) (h6 : a.pages = b.pages) (h7 : a.names = b.names) : a = b := by
  cases a; cases b; simp_all
theorem ref_SameNode (X Y : Nat → Prop) (a b : Node) (cs cs' : List Value) (w : World) (ha : rNode.R X w a cs) (hb : rNode.R Y w b cs') :
    Calls Tryz.prog 52 #[.agg cs.toArray, .agg cs'.toArray] w fun r w' => r = .returned (.bool (decide (a = b))) ∧ Keep w w' := by
  obtain ⟨p1, m1, rfl, hp1, hm1, hok1⟩ := ha
  obtain ⟨p2, m2, rfl, hp2, hm2, hok2⟩ := hb
  obtain ⟨pa1, pc1, rfl, -⟩ := id hp1
  obtain ⟨ma1, mc1, rfl, -⟩ := id hm1
  obtain ⟨pa2, pc2, rfl, -⟩ := id hp2
  obtain ⟨ma2, mc2, rfl, -⟩ := id hm2
  refine calls_rx h52 Tryz.func52 rfl Tryz.mixed (by kernel_rfl) Tryz.results52 ?_
  unfold Node.enc
  simp -dsimp [go_sem]
  generalize hW : (w.alloc _).alloc _ = W
  obtain ⟨A0, B0, k0, z0⟩ := alloc2 hW
  clear hW
  have A0c := blk_cell A0; have A0f := blk_free A0; have A0l := blk_lt A0; have B0c := blk_cell B0; have B0f := blk_free B0; have B0l := blk_lt B0
  try simp -dsimp [go_sem, A0c, A0f, A0l, B0c, B0f, B0l]
  by_cases q1 : a.ino = b.ino
  rotate_left
  · have hne : ¬ a = b := fun q => q1 (by rw [q])
    simp -dsimp [go_sem, A0c, A0f, A0l, B0c, B0f, B0l, q1, hne]
    exact k0
  by_cases q2 : a.kind = b.kind
  rotate_left
  · have hne : ¬ a = b := fun q => q2 (by rw [q])
    simp -dsimp [go_sem, A0c, A0f, A0l, B0c, B0f, B0l, q1, q2, hne]
    exact k0
  by_cases q3 : a.links = b.links
  rotate_left
  · have hne : ¬ a = b := fun q => q3 (by rw [q])
    simp -dsimp [go_sem, A0c, A0f, A0l, B0c, B0f, B0l, q1, q2, q3, hne]
    exact k0
  by_cases q4 : a.size = b.size
  rotate_left
  · have hne : ¬ a = b := fun q => q4 (by rw [q])
    simp -dsimp [go_sem, A0c, A0f, A0l, B0c, B0f, B0l, q1, q2, q3, q4, hne]
    exact k0
  by_cases q5 : a.up = b.up
  rotate_left
  · have hne : ¬ a = b := fun q => q5 (by rw [q])
    simp -dsimp [go_sem, A0c, A0f, A0l, B0c, B0f, B0l, q1, q2, q3, q4, q5, hne]
    exact k0
  have dq : (decide (a = b)) = (decide (a.pages = b.pages) && decide (a.names = b.names)) := by
    rw [Bool.eq_iff_iff]
    simp only [decide_eq_true_eq, Bool.and_eq_true]
    exact ⟨fun q => by rw [q]; exact ⟨rfl, rfl⟩, fun q => node_ext q1 q2 q3 q4 q5 q.1 q.2⟩
  rw [dq]
  simp -dsimp [go_sem, A0c, A0f, A0l, B0c, B0f, B0l, q1, q2, q3, q4, q5]
  refine (ref_SameInts X Y _ _ a.pages b.pages W (hp1.keep k0) (hp2.keep k0)).mono ?_; rintro _ w1 ⟨rfl, k1⟩; refine ret_intro ?_
  have A1 := k1.blk A0 (fun q => q)
  have B1 := k1.blk B0 (fun q => q)
  have k01 := Keep.trans k0 k1
  clear A0c A0f A0l B0c B0f B0l
  have A1c := blk_cell A1; have A1f := blk_free A1; have A1l := blk_lt A1; have B1c := blk_cell B1; have B1f := blk_free B1; have B1l := blk_lt B1
  by_cases q6 : a.pages = b.pages
  rotate_left
  · simp -dsimp [go_sem, A1c, A1f, A1l, B1c, B1f, B1l, q1, q2, q3, q4, q5, q6]
    exact k01
  simp -dsimp [go_sem, A1c, A1f, A1l, B1c, B1f, B1l, q1, q2, q3, q4, q5, q6]
  refine (ref_SameEntries X Y _ _ a.names b.names w1 (hm1.keep k01) (hm2.keep k01)).mono ?_; rintro _ w2 ⟨rfl, k2⟩; refine ret_intro ?_
  simp -dsimp [go_sem, q1, q2, q3, q4, q5, q6]
  exact Keep.trans k01 k2
end Go.Proofs.YtdfjfagljngciaaGreat

set_option linter.all false
set_option maxRecDepth 100000
set_option maxHeartbeats 4000000
namespace Go.Proofs.YtdfjfagljngciaaGreat
open Go.RowKit Rx Go.MapKept

theorem ref_Same (X Y : Nat → Prop) (b b' : Nat) (v v' : Value) (s t : St) (hl : s.L.length ≤ 2 ^ 40) (hl' : t.L.length ≤ 2 ^ 40) (w : World) (h : RAt w X b v s) (h' : RAt w Y b' v' t) :
    Calls Tryz.prog 27 #[.pointer (some ⟨b, 0, none⟩), .pointer (some ⟨b', 0, none⟩)] w fun r w' => r = .returned (.bool (decide (s.last = t.last ∧ s.L = t.L))) ∧ Keep w w' := by
  have H0 := h.hb
  have J0 := h'.hb
  obtain ⟨va, vc, rfl, -⟩ := h.ho.slice
  obtain ⟨va', vc', rfl, -⟩ := h'.ho.slice
  refine calls_rx h27 Tryz.func27 rfl Tryz.mixed (by kernel_rfl) Tryz.results27 ?_
  have H0c := blk_cell H0; have H0f := blk_free H0; have H0l := blk_lt H0; have J0c := blk_cell J0; have J0f := blk_free J0; have J0l := blk_lt J0
  simp -dsimp [go_sem, H0c, H0f, H0l, J0c, J0f, J0l]
  by_cases q1 : s.last = t.last
  rotate_left
  · have hne : ¬ (s.last = t.last ∧ s.L = t.L) := fun q => q1 q.1
    simp -dsimp [go_sem, H0c, H0f, H0l, J0c, J0f, J0l, q1, hne]
    exact keep_drew w
  by_cases q2 : s.L.length = t.L.length
  rotate_left
  · have hne : ¬ s.L = t.L := fun q => q2 (by rw [q])
    have q2' : ¬ (s.L.length : Int) = t.L.length := by omega
    simp -dsimp [go_sem, H0c, H0f, H0l, J0c, J0f, J0l, q1, q2, q2', hne]
    exact keep_drew w
  have q2' : (s.L.length : Int) = t.L.length := by omega
  simp -dsimp [go_sem, H0c, H0f, H0l, J0c, J0f, J0l, q1, q2']
  refine loop_intro (σ := Nat) (fun i => [.int .i64 i]) (fun i w' => i ≤ t.L.length ∧ Keep w w' ∧ s.L.take i = t.L.take i) (fun i => t.L.length - i) 0 (by simp -dsimp [go_sem]; rfl) (by simp -dsimp [go_sem]) ⟨by simp, keep_drew w, by simp⟩ ?_
  rintro i w1 ⟨hi, k1, ht⟩
  simp -dsimp [go_sem]
  by_cases g1 : i < t.L.length
  rotate_left
  · obtain rfl : i = t.L.length := by omega
    rw [List.take_length, ← q2, List.take_length] at ht
    simp -dsimp [go_sem, Nat.lt_irrefl, ht]
    exact ⟨q1, k1⟩
  have hx : s.L[i]? = some s.L[i] := List.getElem?_eq_getElem _
  generalize s.L[i] = x at hx
  have hy : t.L[i]? = some t.L[i] := List.getElem?_eq_getElem _
  generalize t.L[i] = y at hy
  have h1 := h.keep k1
  have j1 := h'.keep k1
  obtain ⟨g, off, c', p, m, e, hgs, hgo, hok, hp, hm, c0, c1, c2, c3, c4, c5, c6, hf, -⟩ := h1.ho.node h.xv hx
  cases e
  obtain ⟨g', off', c'', p', m', e, hgs', hgo', hok', hp', hm', d0, d1, d2, d3, d4, d5, d6, hf', -⟩ := j1.ho.node h'.xv hy
  cases e
  obtain ⟨pa, pc, rfl, -⟩ := id hp
  obtain ⟨ma, mc, rfl, -⟩ := id hm
  obtain ⟨pa', pc', rfl, -⟩ := id hp'
  obtain ⟨ma', mc', rfl, -⟩ := id hm'
  have i1 : i < s.L.length := by omega
  have i2 : (i : Int) < t.L.length := by omega
  have i3 : (i : Int) < s.L.length := by omega
  have H1 := h1.hb
  have J1 := j1.hb
  clear H0c H0f H0l J0c J0f J0l
  have H1c := blk_cell H1; have H1f := blk_free H1; have H1l := blk_lt H1; have J1c := blk_cell J1; have J1f := blk_free J1; have J1l := blk_lt J1
  simp -dsimp [go_sem, g1, i1, i2, i3, H1c, H1f, H1l, J1c, J1f, J1l, hgs, hf, c0, c1, c2, c3, c4, c5, c6, hgs', hf', d0, d1, d2, d3, d4, d5, d6]
  have kd := keep_drew w1
  refine (ref_SameNode X Y x y (x.enc (.slice pa x.pages.length pc) (.slice ma x.names.length mc)) (y.enc (.slice pa' y.pages.length pc') (.slice ma' y.names.length mc')) w1.drew (rNode.keep ⟨_, _, rfl, hp, hm, hok⟩ kd) (rNode.keep ⟨_, _, rfl, hp', hm', hok'⟩ kd)).mono ?_; rintro _ w2 ⟨rfl, k2⟩; refine ret_intro ?_
  have k12 := Keep.trans kd k2
  refine ⟨Keep.agree k12 (Agree.refl _), ?_⟩
  by_cases hxy : x = y
  · have ht2 := take_eq_step hx hy ht hxy
    simp -dsimp [go_sem, hxy]
    try simp -dsimp (disch := omega) only [IntWalk.i64_in, IntWalk.u64_in, IntWalk.u8_in]
    exact back_intro (i + 1) (by simp -dsimp [go_sem]) (by simp -dsimp [go_sem]) ⟨by omega, Keep.trans k1 k12, ht2⟩ (by omega)
  · have hne := ne_at hx hy hxy
    simp -dsimp [go_sem, hxy, hne]
    exact Keep.trans k1 k12
theorem law_Alike (X Y : Nat → Prop) (b m c : Nat) (u : Value) (s t : St) (k k' : Nat) (hg : Good k s) (hk : k ≤ 2 ^ 19) (hg' : Good k' t) (hk' : k' ≤ 2 ^ 19) (w : World) (h : StAt w X b m s) (h' : RAt w Y c u t) :
    Calls Tryz.prog 23 #[.pointer (some ⟨b, 0, none⟩), .pointer (some ⟨c, 0, none⟩)] w fun r w' => r = .returned (.bool (decide (s.last = t.last ∧ s.L = t.L))) ∧ Keep w w' := by
  have hf := hg.fine hk
  have hl40 : s.L.length ≤ 2 ^ 40 := Nat.le_trans hg.len (by omega)
  refine calls_rx h23 Tryz.func23 rfl Tryz.mixed (by kernel_rfl) Tryz.results23 ?_
  simp -dsimp [go_sem]
  generalize hW : w.alloc _ = w0
  obtain ⟨R0, k0, z0⟩ := alloc1 hW
  clear hW
  refine (state_Last X b m s w0 (h.keep k0)).mono ?_; rintro _ w0' ⟨rfl, rfl⟩; refine ret_intro ?_
  simp -dsimp [go_sem]
  generalize hW : (w0.alloc _).alloc _ = W
  obtain ⟨Y0, C0, k1, z1⟩ := alloc2 hW
  clear hW
  have k01 := Keep.trans k0 k1
  have R1 := k1.blk R0 (fun q => q)
  refine (state_Nodes (some ⟨b, 0, none⟩) W).mono ?_; rintro _ w2 ⟨p, rfl, P2, k2, hp1, hp2⟩; refine ret_intro ?_
  replace Y0 := Step.blk k2 Y0 (fun q => q); replace C0 := Step.blk k2 C0 (fun q => q); replace R1 := Step.blk k2 R1 (fun q => q)
  have k02 := Keep.trans k01 k2
  have l2 := k2.size
  have h2 := h.wide (Y := fun k => k = w0.heap.size) k02 (fun k q => by omega)
  have hbm := h.size_b
  simp -dsimp [go_sem]
  refine range_intro (nodes_iter _ b m s hg.srt hf.sz hl40 w2 h2 p P2 (fun k => k = w0.heap.size) (fun k q => ⟨.inr q, by omega, by omega, by omega⟩)) nodes_eg
    (fun i A V => ∃ v, A = (fun k => k = w0.heap.size ∨ ownB v = some k) ∧ Step (fun k => k = w0.heap.size) w2 V ∧ V.heap[w0.heap.size]? = some (.cells #[v, .int .i64 s.last] 86 (0, 0)) ∧ Ow rNode 42 (fun k => k = w0.heap.size ∨ ownB v = some k ∨ k = w2.heap.size ∨ k = w2.heap.size + 1) V v (s.L.take i) ∧ ∀ g, ownB v = some g → w2.heap.size + 1 < g ∧ g < V.heap.size)
    (fun _ _ => False) (by first | rfl | simp -dsimp [go_sem]) (by first | rfl | simp -dsimp [go_sem]) ?_ ?_ ?_ ?_ ?_ ?_ ?_
  · rintro i A V ⟨v, rfl, hs, hv, ho, hb⟩ j q
    have := hs.size
    rcases q with rfl | q
    · exact ⟨by omega, by omega, by omega⟩
    · have := hb j q; exact ⟨by omega, by omega, by omega⟩
  · rintro i A V V' ⟨v, rfl, hs, hv, ho, hb⟩ hst
    have := hst.size
    exact ⟨v, rfl, hs.trans hst (fun j hj q => by omega), hst.blk hv (by omega), ho.step hst (fun j q => .inr (.inr q)) (fun g q q2 => by have := hb g q; omega), fun g q => by have := hb g q; omega⟩
  · rintro e V V' q; exact q.elim
  · exact ⟨.slice none 0 0, by simp [ownB], Step.refl _ _, by simpa using Y0, by simpa using Ow.nil _ _ _ _, by simp [ownB]⟩
  · rintro i x A V vs hx ⟨v, rfl, hs, hv, ho, hb⟩ ⟨pp, pq, rfl, nn, xok, b1, b2, bl⟩
    refine ⟨rfl, ?_⟩
    obtain ⟨pa, pc, ma, mc, rfl, rfl, -⟩ := nn.slices
    have hxm : x ∈ s.L := List.mem_of_getElem? hx
    unfold Node.enc
    simp -dsimp [go_sem]
    have lV : w2.heap.size + 1 < V.heap.size := bl _ (.inr (.inr rfl))
    generalize hW : V.alloc _ = V1
    obtain ⟨N1, k3, z3⟩ := alloc1 hW
    clear hW
    refine ⟨Keep.any k3, fun V2 s12 => ?_⟩
    have l12 := s12.size
    have N2 := s12.blk N1 (by omega)
    have y2 := s12.blk (k3.blk hv (fun q => q)) (by omega)
    have c2 := s12.blk (k3.blk (hs.blk C0 (by omega)) (fun q => q)) (by omega)
    have o2 : Ow rNode 42 (fun k => k = w0.heap.size ∨ ownB v = some k ∨ k = w2.heap.size ∨ k = w2.heap.size + 1) V2 v (s.L.take i) := (ho.keep k3).step s12 (fun j q => .inr (.inr (.inr q))) (fun g q q2 => by have := hb g q; omega)
    have n2 : NOw V2 x (.slice pa x.pages.length pc) (.slice ma x.names.length mc) := (nn.toNOw.keep k3).step s12 (fun g hg q => b1 g hg (.inr (.inr q))) (fun g hg q => b2 g hg (.inr (.inr q)))
    have r2 : rNode.R (fun k => k = w0.heap.size ∨ ownB v = some k ∨ k = w2.heap.size ∨ k = w2.heap.size + 1) V2 x (x.enc (.slice pa x.pages.length pc) (.slice ma x.names.length mc)) :=
      n2.rep xok (fun g hg q => b1 g hg (by
        rcases q with q | q | q
        · exact .inl (.inl q)
        · exact .inl (.inr q)
        · exact .inr q)) (fun g hg q => b2 g hg (by
        rcases q with q | q | q
        · exact .inl (.inl q)
        · exact .inl (.inr q)
        · exact .inr q))
    obtain ⟨va, vc, rfl, -⟩ := ho.slice
    generalize hvv : Value.slice va (s.L.take i).length vc = v at *
    obtain ⟨hk1, hk2, hk3, hk4, hk5⟩ : ∃ hk1 : Nat, (∀ g, ownB v = some g → g = hk1) ∧ hk1 ≠ w0.heap.size ∧ hk1 ≠ w0.heap.size + 1 ∧ hk1 ≠ V.heap.size := by
      cases hq : ownB v with
      | none => exact ⟨V2.heap.size, by simp, by omega, by omega, by omega⟩
      | some g => have := hb g hq; exact ⟨g, by simp, by omega, by omega, by omega⟩
    have N2c := blk_cell N2; have N2f := blk_free N2; have N2l := blk_lt N2
    simp -dsimp [go_sem, N2c, N2f, N2l]
    have hA : Agree (holed V2 hk1) V2 := holed_agree (fun _ _ _ => rfl)
    refine blankF_intro (holed V2 hk1) hA ?_
    clear N2c N2f N2l
    have N3 := (holed_blk (w := V2) (b := hk1) (by omega)).trans N2
    have y3 := (holed_blk (w := V2) (b := hk1) (by omega)).trans y2
    have c3 := (holed_blk (w := V2) (b := hk1) (by omega)).trans c2
    have N3c := blk_cell N3; have N3f := blk_free N3; have N3l := blk_lt N3; have y3c := blk_cell y3; have y3f := blk_free y3; have y3l := blk_lt y3; have c3c := blk_cell c3; have c3f := blk_free c3; have c3l := blk_lt c3
    simp -dsimp [go_sem, N3c, N3f, N3l, y3c, y3f, y3l, c3c, c3f, c3l]
    generalize hW : World.drew (V2.alloc _) = V3
    obtain ⟨N4, k4, z4⟩ : V3.heap[V2.heap.size]? = some (.cells (x.enc (.slice pa x.pages.length pc) (.slice ma x.names.length mc)).toArray 42 (0, 0)) ∧ Keep V2 V3 ∧ V3.heap.size = V2.heap.size + 1 := by
      rw [← hW]; exact ⟨heap_alloc_new V2 _, (keep_alloc V2 _).then (keep_drew _), by show (V2.alloc _).heap.size = _; simp⟩
    clear hW
    refine ⟨holed_agree (fun j hj hne => k4.block j hj (fun q => q)), ?_⟩
    have hli : (s.L.take i).length ≤ 2 ^ 40 := Nat.le_trans (List.length_take_le' i s.L) hl40
    refine app_node (X := fun k => k = w0.heap.size ∨ ownB v = some k ∨ k = w2.heap.size ∨ k = w2.heap.size + 1) (cs := x.enc (.slice pa x.pages.length pc) (.slice ma x.names.length mc)) N4 (rNode.keep r2 k4) (fun q => by
      rcases q with q | q | q
      · omega
      · have := hb _ q; omega
      · omega) (o2.keep k4) (fun g q => .inr (.inl q)) hli ?_
    intro v' V4 o4 s4 b4
    have htk : s.L.take (i + 1) = s.L.take i ++ [x] := by rw [List.take_add_one, hx]; rfl
    rw [← htk] at o4
    have y4 := s4.blk (k4.blk y2 (fun q => q)) (fun q => by have := hb _ q; omega)
    have hb4 : ∀ g, ownB v' = some g → w2.heap.size + 1 < g ∧ g < V4.heap.size := fun g hg => by
      have := (b4 g hg).2
      rcases (b4 g hg).1 with q | q
      · have := hb g q; omega
      · omega
    obtain ⟨va4, vc4, rfl, -⟩ := o4.slice
    generalize hn4 : (s.L.take (i + 1)).length = n4 at *
    clear N3c N3f N3l y3c y3f y3l c3c c3f c3l
    have y4c := blk_cell y4; have y4f := blk_free y4; have y4l := blk_lt y4
    simp -dsimp [go_sem, y4c, y4f, y4l]
    have sW : Step (fun k => k = w0.heap.size) V4 (V4.setCell ⟨w0.heap.size, 0, none⟩ (.slice va4 n4 vc4)) := (Step.refl (fun k => k = w0.heap.size) V4).set (.inl rfl) _
    have s24 : Step (fun k => k = w0.heap.size ∨ ownB v = some k) V2 V4 := Step.trans (O := fun k => k = w0.heap.size ∨ ownB v = some k) (Keep.any k4) s4 (fun j _ q => .inr q)
    have lW := sW.size
    refine ⟨holed_agree (fun j hj hne => (Step.trans (O := fun k => ownB v = some k) (Keep.any k4) s4 (fun j _ q => q)).block j hj (fun q => hne (hk2 j q))), ?_⟩
    have o5 : Ow rNode 42 (fun k => k = w0.heap.size ∨ ownB (.slice va4 n4 vc4) = some k ∨ k = w2.heap.size ∨ k = w2.heap.size + 1) V4 (.slice va4 n4 vc4) (s.L.take (i + 1)) := o4.mono (fun j _ q => by
      rcases q with q | q | q
      · exact .inl (.inl q)
      · exact .inr q
      · exact .inl (.inr (.inr q)))
    refine ⟨_, ⟨_, rfl, ?_, blk_eq (blk_set y4 0 _) (by first | rfl | simp), o5.step sW (fun j q => .inl q) (fun g hg q => by have := hb4 g hg; omega), fun g hg => by have := hb4 g hg; omega⟩, ?_, fun j q => ?_⟩
    · exact ((((hs.then k3).trans s12 (fun j hj q => by omega)).then k4).trans s4 (fun j hj q => by have := hb j q; omega)).trans sW (fun j hj q => q)
    · exact (s24.mono (fun j _ q => .inl q)).trans sW (fun j _ q => .inl (.inl q))
    · rcases q with q | q
      · exact .inl (.inl q)
      · rcases (b4 j q).1 with q' | q'
        · exact .inl (.inr q')
        · right; omega
  · rintro A V ⟨v, rfl, hs, hv, ho, hb⟩ hd
    rw [List.take_length] at ho
    have c2 := hs.blk C0 (by omega)
    have hxl := (ho.mono (Y := fun k => k = w0.heap.size ∨ ownB v = some k) (fun j _ q => q.elim .inl (fun q => .inr (.inl q))))
    have hY : RAt V (fun k => k = w0.heap.size ∨ ownB v = some k) w0.heap.size v s := ⟨hv, hxl, fun g q => .inr q, .inl rfl, fun j q => by
      have := hs.size
      rcases q with q | q
      · omega
      · exact (hb j q).2⟩
    have c2c := blk_cell c2; have c2f := blk_free c2; have c2l := blk_lt c2
    simp -dsimp [go_sem, c2c, c2f, c2l]
    have kV : Keep w V := Step.keep k02 hs (fun j q => by omega)
    refine (ref_Same _ Y _ c v u s t hl40 (Nat.le_trans hg'.len (by omega)) V hY (h'.keep kV)).mono ?_; rintro _ V1 ⟨rfl, k5⟩; refine ret_intro ?_
    have R5 := k5.blk (hs.blk R1 (by omega)) (fun q => q)
    have R5c := blk_cell R5; have R5f := blk_free R5; have R5l := blk_lt R5
    simp -dsimp [go_sem, R5c, R5f, R5l]
    refine end_intro (blk_far (k5.blk hd (fun q => q)) (by simp; omega) _) ?_
    rintro w4 s4
    have R6 := s4.blk (blk_set R5 0 (.bool (decide (s.last = t.last) && decide (s.L = t.L)))) (by omega)
    clear R5c R5f R5l
    have R6c := blk_cell R6; have R6f := blk_free R6; have R6l := blk_lt R6
    simp -dsimp [go_sem, R6c, R6f, R6l]
    exact Step.keep (((kV.then k5).set (.inr (by show w.heap.size ≤ w.heap.size; omega)) _)) s4 (fun j q => by have := k02.size; omega)
  · rintro e V _ q; exact q.elim
end Go.Proofs.YtdfjfagljngciaaGreat
