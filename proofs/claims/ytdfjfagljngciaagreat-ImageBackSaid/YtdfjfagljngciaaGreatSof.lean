/- Package state: Of, of a right state's own nodes. -/
import Derived.Test.YtdfjfagljngciaaGreatRig
set_option linter.all false
set_option maxRecDepth 100000
set_option maxHeartbeats 4000000
namespace Go.Proofs.YtdfjfagljngciaaGreat
open Go.RowKit Rx Go.MapKept

theorem state_Of (v : Value) (s : St) (k : Nat) (hg : Good k s) (hk : k ≤ 2 ^ 10) (ht : Tr (fun _ => 0) s) (hnd : (refsS s).Nodup) (w : World) (h : Sl rNode (fun _ => False) w v s.L) :
    Calls Tryz.prog 61 #[v, .int .i64 s.last] w fun r w' => ∃ b m, r = .returned (.tuple #[.pointer (some ⟨b, 0, none⟩), .bool true]) ∧ StAt w' (fun k => k = b ∨ k = m) b m s ∧ Keep w w' ∧ w.heap.size ≤ b ∧ w.heap.size ≤ m := by
  obtain ⟨a, c, rfl, -⟩ := id h
  have hf := hg.fine (by omega)
  have hgl := hg.len
  have h : Sl rNode (fun k => w.heap.size ≤ k) w (.slice a s.L.length c) s.L := h.mono (fun k hk q => by omega)
  refine calls_rx h61 Tryz.func61 rfl Tryz.mixed (by kernel_rfl) Tryz.results61 ?_
  simp -dsimp [go_sem]
  generalize hW : (w.alloc _).alloc _ = W
  obtain ⟨M0, B0, k0, z0⟩ := alloc2 hW
  clear hW
  refine loop_intro (σ := Nat × Int) (fun t => [.int .i64 t.2, .int .i64 t.1]) (fun t w' => t.1 ≤ s.L.length ∧ (t.2 = 0 ∨ ∃ y ∈ s.L.take t.1, t.2 = y.ino) ∧ StAt w' (fun k => k = w.heap.size + 1 ∨ k = w.heap.size) (w.heap.size + 1) w.heap.size ⟨s.L.take t.1, s.last⟩ ∧ Keep w w') (fun t => s.L.length - t.1) (0, 0) (by simp -dsimp [go_sem]; rfl) (by simp -dsimp [go_sem]) ⟨by omega, .inl rfl, ⟨B0, ⟨#[], 0, M0, stamped_empty 0, by simp [Ents]⟩, .inl rfl, .inr rfl, fun k q => by omega⟩, k0⟩ ?_
  rintro ⟨i, bf⟩ w1 ⟨hi, hbf, h1, k1⟩
  simp only at hi hbf h1
  simp -dsimp [go_sem]
  by_cases g1 : i < s.L.length
  rotate_left
  · obtain rfl : i = s.L.length := by omega
    rw [List.take_length] at h1
    simp -dsimp [go_sem, Nat.lt_irrefl]
    refine (state_Right _ (w.heap.size + 1) w.heap.size s k hg hk ht hnd (by have := ht.root; unfold isDir dirN at this; exact this) w1 h1).mono ?_; rintro _ w2 ⟨rfl, k2⟩; refine ret_intro ?_
    simp -dsimp [go_sem]
    exact ⟨_, h1.keep k2, Keep.trans k1 k2, Nat.le_refl _⟩
  have hx : s.L[i]? = some s.L[i] := List.getElem?_eq_getElem _
  generalize s.L[i] = x at hx
  have i2 : (i : Int) < s.L.length := by omega
  obtain ⟨b, off, cc, p, q, e, hb, -, hok, hp, hq, c0, c1, c2, c3, c4, c5, c6⟩ := (h.keep k1).node hx
  cases e
  obtain ⟨pa, pc, rfl, -⟩ := id hp
  obtain ⟨qa, qc, rfl, -⟩ := id hq
  have hlt : ¬ x.ino ≤ bf := by
    have hpx := (hg.pos x (List.mem_of_getElem? hx)).1
    rcases hbf with q | ⟨y, hy, q⟩
    · omega
    · have : y.ino < x.ino := by
        obtain ⟨j, hj, rfl⟩ := List.mem_iff_getElem.1 hy
        rw [List.length_take] at hj
        rw [List.getElem_take] at q ⊢
        have hs := List.pairwise_iff_getElem.1 hg.srt j i (by omega) g1 (by omega)
        rw [(List.getElem?_eq_some_iff.1 hx).2] at hs
        exact hs
      omega
  simp -dsimp [go_sem, g1, i2, hb, c0, c1, c2, c3, c4, c5, c6]
  simp -dsimp [go_sem, hlt]
  generalize hW : w1.alloc _ = w2
  obtain ⟨X2, k2, z2⟩ := alloc1 hW
  clear hW
  have h2 := h1.keep k2
  have H2 := h2.hb
  have X2c := blk_cell X2; have X2f := blk_free X2; have X2l := blk_lt X2; have H2c := blk_cell H2; have H2f := blk_free H2; have H2l := blk_lt H2
  simp -dsimp [go_sem, X2c, X2f, X2l, H2c, H2f, H2l, hlt]
  have kd := keep_drew w2
  have hR2 : rNode.R (fun k => w.heap.size ≤ k) w2.drew x (x.enc (.slice pa x.pages.length pc) (.slice qa x.names.length qc)) := rNode.keep (rNode.keep ⟨_, _, rfl, hp, hq, hok⟩ k2) kd
  have hsz := hf.sz x (List.mem_of_getElem? hx)
  refine (inode_Copy _ x _ w2.drew hR2 (by omega) (by omega)).mono ?_
  rintro _ w3 ⟨p3, q3, rfl, n3, k3⟩
  refine ret_intro ?_
  have q23 := Keep.trans kd k3
  refine ⟨Keep.agree q23 (Agree.refl _), ?_⟩
  have h3 := h2.keep q23
  have r3 : rNode.R (fun k => k = w.heap.size + 1 ∨ k = w.heap.size) w3 x (x.enc p3 q3) := n3.rep hok (fun g _ hx => by have := h2.xl g hx; exact this)
  obtain ⟨w4, hu, h4, s4⟩ := h3.upd r3 rfl
  try simp -dsimp [go_sem, X2c, X2f, X2l, H2c, H2f, H2l]
  refine upd_intro hu ?_
  have hnew : setL (s.L.take i) x = s.L.take (i + 1) := by
    have hno : getL (s.L.take i) x.ino = none := getL_no (fun y hy => by
      obtain ⟨j, hj, rfl⟩ := List.mem_iff_getElem.1 hy
      rw [List.length_take] at hj
      rw [List.getElem_take]
      have hs := List.pairwise_iff_getElem.1 hg.srt j i (by omega) g1 (by omega)
      rw [(List.getElem?_eq_some_iff.1 hx).2] at hs
      omega)
    rw [setL_new hno, List.take_add_one, hx]; rfl
  rw [hnew] at h4
  simp -dsimp [go_sem]
  try simp -dsimp (disch := omega) only [IntWalk.i64_in, IntWalk.u64_in, IntWalk.u8_in]
  refine back_intro (i + 1, x.ino) (by simp -dsimp [go_sem]) (by simp -dsimp [go_sem]) ⟨by omega, .inr ⟨x, ?_, rfl⟩, h4, Step.keep (Keep.trans k1 (Keep.trans k2 q23)) s4 (fun j q => by omega)⟩ (by simp only; omega)
  rw [List.take_add_one, hx]
  simp
end Go.Proofs.YtdfjfagljngciaaGreat
