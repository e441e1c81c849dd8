/- The reference: whether nodes, and states, are alike. -/
import Derived.Test.YtdfjfagljngciaaGreatRa
set_option linter.all false
set_option maxRecDepth 100000
set_option maxHeartbeats 4000000
namespace Go.Proofs.YtdfjfagljngciaaGreat
open Go.RowKit Rx Go.MapKept

theorem node_ext {a b : Node} (h1 : a.ino = b.ino) (h2 : a.kind = b.kind) (h3 : a.links = b.links) (h4 : a.size = b.size) (h5 : a.up = b.up) (h6 : a.pages = b.pages) (h7 : a.names = b.names) : a = b := by
  cases a; cases b; simp_all
theorem ref_SameNode (X Y : Nat → Prop) (a b : Node) (cs cs' : List Value) (w : World) (ha : rNode.R X w a cs) (hb : rNode.R Y w b cs') :
    Calls Tryz.prog 52 #[.agg cs.toArray, .agg cs'.toArray] w fun r w' => r = .returned (.bool (decide (a = b))) ∧ Keep w w' := by
  obtain ⟨p1, m1, rfl, hp1, hm1, hok1⟩ := ha
  obtain ⟨p2, m2, rfl, hp2, hm2, hok2⟩ := hb
  obtain ⟨pa1, pc1, rfl, -⟩ := id hp1
  obtain ⟨ma1, mc1, rfl, -⟩ := id hm1
  obtain ⟨pa2, pc2, rfl, -⟩ := id hp2
  obtain ⟨ma2, mc2, rfl, -⟩ := id hm2
  refine calls_rx h52 Tryz.func52 rfl Tryz.mixed (by kernel_rfl) Tryz.results52 ?_
  unfold Node.enc
  simp -dsimp [go_sem]
  generalize hW : (w.alloc _).alloc _ = W
  obtain ⟨A0, B0, k0, z0⟩ := alloc2 hW
  clear hW
  have A0c := blk_cell A0; have A0f := blk_free A0; have A0l := blk_lt A0; have B0c := blk_cell B0; have B0f := blk_free B0; have B0l := blk_lt B0
  try simp -dsimp [go_sem, A0c, A0f, A0l, B0c, B0f, B0l]
  by_cases q1 : a.ino = b.ino
  rotate_left
  · have hne : ¬ a = b := fun q => q1 (by rw [q])
    simp -dsimp [go_sem, A0c, A0f, A0l, B0c, B0f, B0l, q1, hne]
    exact k0
  by_cases q2 : a.kind = b.kind
  rotate_left
  · have hne : ¬ a = b := fun q => q2 (by rw [q])
    simp -dsimp [go_sem, A0c, A0f, A0l, B0c, B0f, B0l, q1, q2, hne]
    exact k0
  by_cases q3 : a.links = b.links
  rotate_left
  · have hne : ¬ a = b := fun q => q3 (by rw [q])
    simp -dsimp [go_sem, A0c, A0f, A0l, B0c, B0f, B0l, q1, q2, q3, hne]
    exact k0
  by_cases q4 : a.size = b.size
  rotate_left
  · have hne : ¬ a = b := fun q => q4 (by rw [q])
    simp -dsimp [go_sem, A0c, A0f, A0l, B0c, B0f, B0l, q1, q2, q3, q4, hne]
    exact k0
  by_cases q5 : a.up = b.up
  rotate_left
  · have hne : ¬ a = b := fun q => q5 (by rw [q])
    simp -dsimp [go_sem, A0c, A0f, A0l, B0c, B0f, B0l, q1, q2, q3, q4, q5, hne]
    exact k0
  have dq : (decide (a = b)) = (decide (a.pages = b.pages) && decide (a.names = b.names)) := by
    rw [Bool.eq_iff_iff]
    simp only [decide_eq_true_eq, Bool.and_eq_true]
    exact ⟨fun q => by rw [q]; exact ⟨rfl, rfl⟩, fun q => node_ext q1 q2 q3 q4 q5 q.1 q.2⟩
  rw [dq]
  simp -dsimp [go_sem, A0c, A0f, A0l, B0c, B0f, B0l, q1, q2, q3, q4, q5]
  refine (ref_SameInts X Y _ _ a.pages b.pages W (hp1.keep k0) (hp2.keep k0)).mono ?_; rintro _ w1 ⟨rfl, k1⟩; refine ret_intro ?_
  have A1 := k1.blk A0 (fun q => q)
  have B1 := k1.blk B0 (fun q => q)
  have k01 := Keep.trans k0 k1
  clear A0c A0f A0l B0c B0f B0l
  have A1c := blk_cell A1; have A1f := blk_free A1; have A1l := blk_lt A1; have B1c := blk_cell B1; have B1f := blk_free B1; have B1l := blk_lt B1
  by_cases q6 : a.pages = b.pages
  rotate_left
  · simp -dsimp [go_sem, A1c, A1f, A1l, B1c, B1f, B1l, q1, q2, q3, q4, q5, q6]
    exact k01
  simp -dsimp [go_sem, A1c, A1f, A1l, B1c, B1f, B1l, q1, q2, q3, q4, q5, q6]
  refine (ref_SameEntries X Y _ _ a.names b.names w1 (hm1.keep k01) (hm2.keep k01)).mono ?_; rintro _ w2 ⟨rfl, k2⟩; refine ret_intro ?_
  simp -dsimp [go_sem, q1, q2, q3, q4, q5, q6]
  exact Keep.trans k01 k2
end Go.Proofs.YtdfjfagljngciaaGreat
