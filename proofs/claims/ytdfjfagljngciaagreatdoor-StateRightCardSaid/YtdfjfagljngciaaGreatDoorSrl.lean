/- Effects with refs of their own leave all as it should be; a copy goes its own way; a state that nobody made has no nodes. -/
import Derived.Test.YtdfjfagljngciaaGreatDoorAw
set_option linter.all false
set_option maxRecDepth 100000
set_option maxHeartbeats 4000000
namespace Go.Proofs.YtdfjfagljngciaaGreatDoor
open Go.RowKit Rx Go.MapKept

theorem state_right_law (M : Int) (v : Value) (l : List Deed16) (d : Deed16) (cs : List Value) (w : World) (hm : w.cell? ⟨0, 0, none⟩ = some (.int .i64 M)) (hl : Sl rDeed16 (fun _ => False) w v l) (hd : rDeed16.R (fun _ => False) w d cs) (hlen : l.length * 112 ≤ 140737488351232) :
    Calls Tryz.prog 5 #[v, .agg cs.toArray] w fun r w' => r = .returned (.bool true) ∧ Keep w w' := by
  obtain ⟨dd, rfl, hdd, hdok⟩ := id hd
  obtain ⟨da, dc, rfl, -⟩ := id hdd
  obtain ⟨a, c, rfl, -⟩ := id hl
  refine calls_rx h5 Tryz.func5 rfl Tryz.mixed (by kernel_rfl) Tryz.results5 ?_
  unfold Deed16.enc
  simp -dsimp [go_sem]
  generalize hW : w.alloc _ = W
  obtain ⟨D0, k0, z0⟩ := alloc1s hW
  clear hW
  refine (awake16 M W (k0.cell hm (fun q => q))).mono ?_; rintro _ w1 ⟨rfl, k1⟩; refine ret_intro ?_
  have k01 := Keep.trans k0 k1
  have D1 := k1.blk D0 (fun q => q)
  simp -dsimp [go_sem]
  refine (few16 _ l w1 (hl.keep k01) (by omega)).mono ?_
  rintro _ w2 ⟨bf, rfl, hbf, k2⟩
  refine ret_intro ?_
  have k02 := Keep.trans k01 k2
  have D2 := k2.blk D1 (fun q => q)
  cases bf
  · simp -dsimp [go_sem]
    exact k02
  obtain ⟨hl30, hlf⟩ := hbf rfl
  have D2c := blk_cell D2; have D2f := blk_free D2; have D2l := blk_lt D2
  simp -dsimp [go_sem, D2c, D2f, D2l]
  generalize hW : w2.alloc _ = w3
  obtain ⟨X3, k3, z3⟩ := alloc1s hW
  clear hW
  have k03 := Keep.trans k02 k3
  refine (few16 _ [d] w3 (Sl.of_blk (r := rDeed16) X3 id (Cs.one (r := rDeed16) (cs := d.enc (.slice da d.e.data.length dc)) (rDeed16.keep hd k03)) rfl (by show 1 ≤ maxLen; unfold maxLen; omega)) (by simp)).mono ?_
  rintro _ w4 ⟨bf, rfl, hbf2, k4⟩
  refine ret_intro ?_
  have k04 := Keep.trans k03 k4
  have D4 := (Keep.trans k3 k4).blk D2 (fun q => q)
  clear D2c D2f D2l
  cases bf
  · simp -dsimp [go_sem]
    exact k04
  simp -dsimp [go_sem]
  refine (state_New (fun _ => False) w4 (fun _ q => q.elim)).mono ?_; rintro _ w5 ⟨b, m, rfl, h5, k5, hb5, hm5⟩; refine ret_intro ?_
  have k05 := Keep.trans k04 k5
  have D5 := k5.blk D4 (fun q => q)
  have hbm := h5.size_b
  have l4 := k04.size
  have lD4 := blk_lt D4
  simp -dsimp [go_sem]
  have hl' : Sl rDeed16 (fun k => w4.heap.size ≤ k) w4 (.slice a l.length c) l := (hl.keep k04).mono (fun k hk q => by omega)
  generalize hX : (fun k => (fun x => False) k ∨ k = b ∨ k = m) = X at h5
  refine loop_intro (σ := Nat) (fun i => [.int .i64 i]) (fun i w' => i ≤ l.length ∧ Keep w4 w' ∧ StAt w' X b m (ownS l i) ∧ w'.heap[w.heap.size]? = some (.cells #[.int .i64 d.e.kind, .int .i64 d.e.ino, .int .i64 d.e.dir, .int .i64 d.e.tu, .int .i64 d.e.page, .int .i64 d.e.size, .string d.e.name, .string d.e.other, .slice da d.e.data.length dc, .int .i64 d.ref] 29 (0, 0))) (fun i => l.length - i) 0 (by simp -dsimp [go_sem]; rfl) (by simp -dsimp [go_sem]) ⟨Nat.zero_le _, k5, by rw [ownS_zero]; exact h5, D5⟩ ?_
  rintro i w6 ⟨hi, k6, h6, D6⟩
  have hown := ownR_own l i hi (by omega)
  simp -dsimp [go_sem]
  by_cases g1 : i < l.length
  rotate_left
  · obtain rfl : i = l.length := by omega
    simp -dsimp [go_sem, Nat.lt_irrefl]
    refine (state_Copy X b m (ownS l l.length) w6 h6).mono ?_; rintro _ w7 ⟨b', m', rfl, h7, k7, hb7, hm7, hbm7, hl7, hl7'⟩; refine ret_intro ?_
    have D7 := k7.blk D6 (fun q => q)
    have S7 := h6.keep k7
    have hbm6 := h6.size_b
    generalize ownS l l.length = s at hown h7 S7
    have hg60 : Good 60 s := hown.good.mono (by omega)
    have hfi := hg60.fine (by omega)
    simp -dsimp [go_sem]
    refine (state_Words _ b' m' s 60 hg60 (by omega) w7 h7).mono ?_; rintro _ w8 ⟨rfl, k8⟩; refine ret_intro ?_
    simp -dsimp [go_sem]
    refine (state_Last _ b' m' s w8 (h7.keep k8)).mono ?_; rintro _ w9 ⟨rfl, rfl⟩; refine ret_intro ?_
    have D8 := k8.blk D7 (fun q => q)
    have D8c := blk_cell D8; have D8f := blk_free D8; have D8l := blk_lt D8
    simp -dsimp [go_sem, D8c, D8f, D8l]
    refine (state_Apply X b m s hfi (hg60.names (by omega)) d.e hdok.1 99 ⟨by decide, by decide⟩ da dc w8 (S7.keep k8)).mono ?_
    rintro _ w9 ⟨gv, rfl, -, -, s9, -⟩
    refine ret_intro ?_
    have D9 := s9.blk D8 (fun q => by omega)
    clear D8c D8f D8l
    have C9 := (h7.keep k8).step s9 (fun k q => .inl (by rw [← hX]; exact .inr q)) (fun q => by omega) (fun q => by omega)
    have kw9 : Keep w4 w9 := Step.keep (Keep.trans k6 (Keep.trans k7 k8)) s9 (fun j q => by omega)
    have D9c := blk_cell D9; have D9f := blk_free D9; have D9l := blk_lt D9
    simp -dsimp [go_sem, D9c, D9f, D9l]
    refine (nil_Apply d.e 1 da dc w9).mono ?_
    rintro _ w10 ⟨rfl, k10⟩
    refine ret_intro ?_
    simp -dsimp [go_sem]
    refine (nil_Find _ w10).mono ?_; rintro _ w11 ⟨rfl, k11⟩; refine ret_intro ?_
    simp -dsimp [go_sem]
    refine (nil_Get 1 w11).mono ?_; rintro _ w12 ⟨rfl, k12⟩; refine ret_intro ?_
    unfold Node.enc node0
    simp -dsimp [go_sem]
    generalize hW : (w12.alloc _).alloc _ = w13
    obtain ⟨-, E13, k13, z13⟩ := alloc2 hW
    clear hW
    have k913 := Keep.trans k10 (Keep.trans k11 (Keep.trans k12 k13))
    refine (state_Nodes none w13).mono ?_; rintro _ w14 ⟨p, rfl, P14, k14, hp1, hp2⟩; refine ret_intro ?_
    have E14 := k14.blk E13 (fun q => q)
    have k914 := Keep.trans k913 k14
    simp -dsimp [go_sem]
    refine range_intro (α := Node) (R := RN 0) (xs := []) (nil_iter w14 p P14 (fun _ => False)) nodes_eg
      (fun i A V => Keep w14 V ∧ A = fun _ => False)
      (fun _ _ => False) (by first | rfl | simp -dsimp [go_sem]) (by first | rfl | simp -dsimp [go_sem]) ?_ ?_ ?_ ?_ ?_ ?_ ?_
    · rintro i A V ⟨hs, rfl⟩ j q; exact q.elim
    · rintro i A V V' ⟨hs, rfl⟩ hst
      exact ⟨Step.keep hs hst (fun j q => by omega), rfl⟩
    · rintro e V V' q; exact q.elim
    · exact ⟨Keep.refl _, rfl⟩
    · rintro i x A V vs hx; simp at hx
    rotate_left
    · rintro e V _ q; exact q.elim
    rintro A V ⟨hs, rfl⟩ hd
    have E15 := hs.blk E14 (fun q => q)
    have E15c := blk_cell E15; have E15f := blk_free E15; have E15l := blk_lt E15
    simp -dsimp [go_sem, E15c, E15f, E15l]
    have e0 : IntKind.i64.wrap 0 = 0 := IntWalk.i64_in _ (by omega)
    have kd := keep_drew V
    have kwV : Keep w9 V := Keep.trans k914 hs
    have CV := C9.keep kwV
    refine (hown.right (by omega) _ b' m' V.drew (CV.keep kd)).mono ?_; rintro _ v1 ⟨rfl, j1⟩; refine ret_intro ?_
    have q1 := Keep.trans kd j1
    refine ⟨Keep.agree q1 (Agree.refl _), ?_⟩
    simp -dsimp [go_sem, E15c, E15f, E15l, e0]
    refine (state_Words _ b' m' s 60 hg60 (by omega) v1 (CV.keep q1)).mono ?_; rintro _ v2 ⟨rfl, j2⟩; refine ret_intro ?_
    have q2 := Keep.trans q1 j2
    refine ⟨Keep.agree q2 (Agree.refl _), ?_⟩
    simp -dsimp [go_sem, E15c, E15f, E15l, e0]
    refine (state_Last _ b' m' s v2 (CV.keep q2)).mono ?_; rintro _ v3 ⟨rfl, rfl⟩; refine ret_intro ?_
    refine ⟨Keep.agree q2 (Agree.refl _), ?_⟩
    simp -dsimp [go_sem, E15c, E15f, E15l, e0]
    refine (nil_Right v2).mono ?_; rintro _ v3 ⟨rfl, j3⟩; refine ret_intro ?_
    have q3 := Keep.trans q2 j3
    refine ⟨Keep.agree q3 (Agree.refl _), ?_⟩
    simp -dsimp [go_sem, E15c, E15f, E15l, e0]
    refine (nil_Last v3).mono ?_; rintro _ v4 ⟨rfl, j4⟩; refine ret_intro ?_
    have q4 := Keep.trans q3 j4
    refine ⟨Keep.agree q4 (Agree.refl _), ?_⟩
    simp -dsimp [go_sem, E15c, E15f, E15l, e0]
    refine (nil_Words v4).mono ?_; rintro _ v5 ⟨rfl, j5⟩; refine ret_intro ?_
    have q5 := Keep.trans q4 j5
    refine ⟨Keep.agree q5 (Agree.refl _), ?_⟩
    simp -dsimp [go_sem, E15c, E15f, E15l, e0]
    refine (nil_Refs v5).mono ?_; rintro _ v6 ⟨rfl, j6⟩; refine ret_intro ?_
    have q6 := Keep.trans q5 j6
    refine ⟨Keep.agree q6 (Agree.refl _), ?_⟩
    simp -dsimp [go_sem, E15c, E15f, E15l, e0]
    refine (nil_Orphans v6).mono ?_; rintro _ v7 ⟨rfl, j7⟩; refine ret_intro ?_
    have q7 := Keep.trans q6 j7
    refine ⟨Keep.agree q7 (Agree.refl _), ?_⟩
    simp -dsimp [go_sem, E15c, E15f, E15l, e0]
    refine (nil_Copy v7).mono ?_; rintro _ v8 ⟨rfl, j8⟩; refine ret_intro ?_
    have q8 := Keep.trans q7 j8
    refine ⟨Keep.agree q8 (Agree.refl _), ?_⟩
    simp -dsimp [go_sem, E15c, E15f, E15l, e0]
    refine ⟨Keep.agree q8 (Agree.refl _), ?_⟩
    have hd8 := q8.blk hd (fun q => q)
    refine end_intro hd8 ?_
    rintro v9 s9'
    try simp -dsimp [go_sem]
    have kw14 : Keep w w14 := Keep.trans k04 (Keep.trans kw9 k914)
    have lw := kw14.size
    exact Step.keep (Keep.trans kw14 (Keep.trans hs q8)) s9' (fun j q => by omega)
  have hx : l[i]? = some l[i] := List.getElem?_eq_getElem _
  generalize l[i] = x at hx
  obtain ⟨q, off, c', dx, e, hq, -, hok, hdx, c0, c1, c2, c3, c4, c5, c6, c7, c8, c9⟩ := (hl'.keep k6).deed16 hx
  cases e
  obtain ⟨xa, xc, rfl, -⟩ := id hdx
  have i2 : (i : Int) < l.length := by omega
  have hdn := ownS_next hx
  have hfi := hown.good.fine (by omega)
  have e1 : IntKind.i64.wrap ((i : Int) + 1) = (i : Int) + 1 := IntWalk.i64_in _ (by omega)
  simp -dsimp [go_sem, g1, i2, hq, c0, c1, c2, c3, c4, c5, c6, c7, c8, c9, e1]
  generalize hW : w6.alloc _ = w7
  obtain ⟨X7, k7, z7⟩ := alloc1s hW
  clear hW
  try have X7c := blk_cell X7; have X7f := blk_free X7; have X7l := blk_lt X7
  try simp -dsimp [go_sem, X7c, X7f, X7l, e1]
  refine (state_Apply X b m (ownS l i) hfi (hown.good.names (by omega)) x.e hok.1 ((i : Int) + 1) ⟨by omega, by omega⟩ xa xc w7 (h6.keep k7)).mono ?_
  rintro _ w8 ⟨gv, rfl, -, h8, s8, -⟩
  refine ret_intro ?_
  rw [← hdn] at h8
  simp -dsimp [go_sem]
  have hown2 := ownR_own l (i + 1) (by omega) (by omega)
  refine (hown2.right (by omega) X b m w8 h8).mono ?_; rintro _ w9 ⟨rfl, k9⟩; refine ret_intro ?_
  simp -dsimp [go_sem]
  try simp -dsimp (disch := omega) only [IntWalk.i64_in, IntWalk.u64_in, IntWalk.u8_in]
  have l7 := k7.size
  have l6 := k6.size
  have D9 := k9.blk (s8.blk (k7.blk D6 (fun q => q)) (fun q => by omega)) (fun q => q)
  exact back_intro (i + 1) (by simp -dsimp [go_sem]) (by simp -dsimp [go_sem]) ⟨by omega, Keep.trans (Step.keep (Keep.trans k6 k7) s8 (fun j q => by omega)) k9, h8.keep k9, D9⟩ (by omega)
end Go.Proofs.YtdfjfagljngciaaGreatDoor
