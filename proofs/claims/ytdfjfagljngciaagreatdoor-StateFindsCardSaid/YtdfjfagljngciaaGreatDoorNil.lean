/- A state that nobody made. -/
import Derived.Test.YtdfjfagljngciaaGreatDoorStl
import Derived.Test.YtdfjfagljngciaaGreatDoorFnd
set_option linter.all false
set_option maxRecDepth 100000
set_option maxHeartbeats 4000000
namespace Go.Proofs.YtdfjfagljngciaaGreatDoor
open Go.RowKit Rx Go.MapKept

theorem nil_Get (k : Int) (w : World) : Calls Tryz.prog 20 #[.pointer none, .int .i64 k] w fun e w' => e = .returned (.tuple #[.agg (node0.enc (.slice none 0 0) (.slice none 0 0)).toArray, .bool false]) ∧ Keep w w' := by
  refine calls_rx h20 Tryz.func20 rfl Tryz.mixed (by kernel_rfl) Tryz.results20 ?_
  simp -dsimp [go_sem]
  generalize hW : w.alloc _ = W
  obtain ⟨N0, k0, z0⟩ := alloc1s hW
  clear hW
  refine (state_ok_nil W).mono ?_; rintro _ w1 ⟨rfl, rfl⟩; refine ret_intro ?_
  have N0c := blk_cell N0; have N0f := blk_free N0; have N0l := blk_lt N0
  simp -dsimp [go_sem, N0c, N0f, N0l]
  exact ⟨rfl, Step.keep k0 (O' := fun k => k = w.heap.size) (by (repeat (with_reducible first | exact Step.refl _ _ | refine Step.drew ?_ | refine Step.set ?_ ?_ _)); all_goals (first | exact .inl rfl | exact .inl (by simp))) (fun j q => by omega)⟩
theorem nil_Last (w : World) : Calls Tryz.prog 27 #[.pointer none] w fun e w' => e = .returned (.int .i64 0) ∧ Keep w w' := by
  refine calls_rx h27 Tryz.func27 rfl Tryz.mixed (by kernel_rfl) Tryz.results27 ?_
  simp -dsimp [go_sem]
  refine (state_ok_nil w).mono ?_; rintro _ w1 ⟨rfl, rfl⟩; refine ret_intro ?_
  simp -dsimp [go_sem]
  exact Keep.refl _
theorem nil_Words (w : World) : Calls Tryz.prog 26 #[.pointer none] w fun e w' => e = .returned (.int .i64 0) ∧ Keep w w' := by
  refine calls_rx h26 Tryz.func26 rfl Tryz.mixed (by kernel_rfl) Tryz.results26 ?_
  simp -dsimp [go_sem]
  refine (state_ok_nil w).mono ?_; rintro _ w1 ⟨rfl, rfl⟩; refine ret_intro ?_
  simp -dsimp [go_sem]
  exact Keep.refl _
theorem nil_Copy (w : World) : Calls Tryz.prog 25 #[.pointer none] w fun e w' => e = .returned (.pointer none) ∧ Keep w w' := by
  refine calls_rx h25 Tryz.func25 rfl Tryz.mixed (by kernel_rfl) Tryz.results25 ?_
  simp -dsimp [go_sem]
  refine (state_ok_nil w).mono ?_; rintro _ w1 ⟨rfl, rfl⟩; refine ret_intro ?_
  simp -dsimp [go_sem]
  exact Keep.refl _
theorem nil_Find (p : ByteArray) (w : World) : Calls Tryz.prog 16 #[.pointer none, .string p] w fun e w' => e = .returned (.tuple #[.int .i64 0, .int .i64 91]) ∧ Keep w w' := by
  refine calls_rx h16 Tryz.func16 rfl Tryz.mixed (by kernel_rfl) Tryz.results16 ?_
  simp -dsimp [go_sem]
  refine (state_ok_nil w).mono ?_; rintro _ w1 ⟨rfl, rfl⟩; refine ret_intro ?_
  simp -dsimp [go_sem]
  exact Keep.refl _
theorem nil_Apply (e : Effect) (ref : Int) (a : Option Addr) (c : Nat) (w : World) : Calls Tryz.prog 10 #[.pointer none, .agg (e.enc (.slice a e.data.length c)).toArray, .int .i64 ref] w fun r w' => r = .returned (.tuple #[.slice none 0 0, .int .i64 91]) ∧ Keep w w' := by
  refine calls_rx h10 Tryz.func10 rfl Tryz.mixed (by kernel_rfl) Tryz.results10 ?_
  unfold Effect.enc
  simp -dsimp [go_sem]
  generalize hW : w.alloc _ = W
  obtain ⟨N0, k0, z0⟩ := alloc1s hW
  clear hW
  refine (state_ok_nil W).mono ?_; rintro _ w1 ⟨rfl, rfl⟩; refine ret_intro ?_
  simp -dsimp [go_sem]
  exact k0
theorem nil_numbers (w : World) : Calls Tryz.prog 56 #[.pointer none] w fun r w' => r = .returned (.slice none 0 0) ∧ Keep w w' := by
  refine calls_rx h56 Tryz.func56 rfl Tryz.mixed (by kernel_rfl) Tryz.results56 ?_
  simp -dsimp [go_sem]
  refine (state_ok_nil w).mono ?_; rintro _ w1 ⟨rfl, rfl⟩; refine ret_intro ?_
  simp -dsimp [go_sem]
  exact Keep.refl _
theorem nil_iter {R : (Nat → Prop) → World → Node → List Value → Prop} (w0 : World) (p : Nat) (hb : w0.heap[p]? = some (.cells #[.pointer none] 30 (0, 0))) (A0 : Nat → Prop) :
    Iter Tryz.prog 55 #[.pointer (some ⟨p, 0, none⟩)] R [] A0 w0 := by
  intro l J E A W k0 hA' hlt hJk hEk hround h0
  show Calls Tryz.prog 55 #[.func (.yield l) #[] #[], .pointer (some ⟨p, 0, none⟩)] W _
  refine calls_rx h55 Tryz.func55 rfl Tryz.mixed (by kernel_rfl) Tryz.results55 ?_
  have B0 := k0.blk hb (fun q => q)
  have B0c := blk_cell B0; have B0f := blk_free B0; have B0l := blk_lt B0
  simp -dsimp [go_sem, B0c, B0f, B0l]
  refine (nil_numbers W).mono ?_; rintro _ w1 ⟨rfl, k1⟩; refine ret_intro ?_
  have h1 := hJk 0 A W w1 h0 k1
  simp -dsimp [go_sem]
  refine loop_intro (σ := Unit) (fun _ => [.int .i64 0]) (fun _ w' => w' = w1) (fun _ => 0) () (by simp -dsimp [go_sem]; rfl) (by simp -dsimp [go_sem]) rfl ?_
  rintro _ _ rfl
  simp -dsimp [go_sem]
  exact .inl ⟨A, h1⟩
theorem nil_dir (k : Int) (w : World) : Calls Tryz.prog 41 #[.pointer none, .int .i64 k] w fun e w' => e = .returned (.tuple #[.agg (node0.enc (.slice none 0 0) (.slice none 0 0)).toArray, .bool false]) ∧ Keep w w' := by
  refine calls_rx h41 Tryz.func41 rfl Tryz.mixed (by kernel_rfl) Tryz.results41 ?_
  simp -dsimp [go_sem]
  generalize hW : w.alloc _ = W
  obtain ⟨R0, k0, z0⟩ := alloc1s hW
  clear hW
  refine (nil_Get k W).mono ?_; rintro _ w1 ⟨rfl, k1⟩; refine ret_intro ?_
  unfold Node.enc node0
  simp -dsimp [go_sem]
  generalize hW : w1.alloc _ = W2
  obtain ⟨R1, k2, z2⟩ := alloc1s hW
  clear hW
  replace R0 := Step.blk k1 R0 (fun q => q)
  replace R0 := Step.blk k2 R0 (fun q => q)
  have z1 := k1.size
  refine blankF_intro (holed W2 w.heap.size) (holed_agree (fun _ _ _ => rfl)) ?_
  have hA : Agree (holed W2 w.heap.size) W2 := holed_agree (fun _ _ _ => rfl)
  have D1 := (holed_blk (w := W2) (b := w.heap.size) (by omega)).trans R1
  have R0c := blk_cell R0; have R0f := blk_free R0; have R0l := blk_lt R0; have D1c := blk_cell D1; have D1f := blk_free D1; have D1l := blk_lt D1
  simp -dsimp [go_sem, R0c, R0f, R0l, D1c, D1f, D1l]
  exact ⟨(by (repeat (with_reducible first | exact hA | refine agree_drew ?_ | refine holed_set ?_ _ _))), Step.keep (Keep.trans k0 (Keep.trans k1 k2)) (O' := fun k => k = w.heap.size) (by (repeat (with_reducible first | exact Step.refl _ _ | refine Step.drew ?_ | refine Step.set ?_ ?_ _)); all_goals (first | exact .inl rfl | exact .inl (by simp))) (fun j q => by omega)⟩
theorem nil_Refs (w : World) : Calls Tryz.prog 29 #[.pointer none] w fun r w' => r = .returned (.slice none 0 0) ∧ Keep w w' := by
  refine calls_rx h29 Tryz.func29 rfl Tryz.mixed (by kernel_rfl) Tryz.results29 ?_
  simp -dsimp [go_sem]
  generalize hW : w.alloc _ = W
  obtain ⟨E0, k0, z0⟩ := alloc1s hW
  clear hW
  refine (state_Nodes none W).mono ?_; rintro _ w2 ⟨p, rfl, P2, k2, hp1, hp2⟩; refine ret_intro ?_
  replace E0 := Step.blk k2 E0 (fun q => q)
  have k02 := Keep.trans k0 k2
  simp -dsimp [go_sem]
  refine range_intro (α := Node) (R := RN 0) (xs := []) (nil_iter w2 p P2 (fun _ => False)) nodes_eg
    (fun i A V => Step (fun _ => False) w2 V ∧ A = fun _ => False)
    (fun _ _ => False) (by first | rfl | simp -dsimp [go_sem]) (by first | rfl | simp -dsimp [go_sem]) ?_ ?_ ?_ ?_ ?_ ?_ ?_
  · rintro i A V ⟨hs, rfl⟩ j q; exact q.elim
  · rintro i A V V' ⟨hs, rfl⟩ hst
    exact ⟨Step.keep hs hst (fun j q => by omega), rfl⟩
  · rintro e V V' q; exact q.elim
  · exact ⟨Keep.refl _, rfl⟩
  · rintro i x A V vs hx; simp at hx
  · rintro A V ⟨hs, rfl⟩ hd
    have E2 := hs.blk E0 (fun q => q)
    have lE := blk_lt E0
    have E2c := blk_cell E2; have E2f := blk_free E2; have E2l := blk_lt E2
    simp -dsimp [go_sem, E2c, E2f, E2l]
    refine end_intro hd ?_
    rintro w4 s4
    try simp -dsimp [go_sem]
    exact Step.keep (Keep.trans k02 hs) s4 (fun j q => by omega)
  · rintro e V _ q; exact q.elim
theorem nil_Orphans (w : World) : Calls Tryz.prog 30 #[.pointer none] w fun r w' => r = .returned (.slice none 0 0) ∧ Keep w w' := by
  refine calls_rx h30 Tryz.func30 rfl Tryz.mixed (by kernel_rfl) Tryz.results30 ?_
  simp -dsimp [go_sem]
  generalize hW : w.alloc _ = W
  obtain ⟨E0, k0, z0⟩ := alloc1s hW
  clear hW
  refine (state_Nodes none W).mono ?_; rintro _ w2 ⟨p, rfl, P2, k2, hp1, hp2⟩; refine ret_intro ?_
  replace E0 := Step.blk k2 E0 (fun q => q)
  have k02 := Keep.trans k0 k2
  simp -dsimp [go_sem]
  refine range_intro (α := Node) (R := RN 0) (xs := []) (nil_iter w2 p P2 (fun _ => False)) nodes_eg
    (fun i A V => Step (fun _ => False) w2 V ∧ A = fun _ => False)
    (fun _ _ => False) (by first | rfl | simp -dsimp [go_sem]) (by first | rfl | simp -dsimp [go_sem]) ?_ ?_ ?_ ?_ ?_ ?_ ?_
  · rintro i A V ⟨hs, rfl⟩ j q; exact q.elim
  · rintro i A V V' ⟨hs, rfl⟩ hst
    exact ⟨Step.keep hs hst (fun j q => by omega), rfl⟩
  · rintro e V V' q; exact q.elim
  · exact ⟨Keep.refl _, rfl⟩
  · rintro i x A V vs hx; simp at hx
  · rintro A V ⟨hs, rfl⟩ hd
    have E2 := hs.blk E0 (fun q => q)
    have lE := blk_lt E0
    have E2c := blk_cell E2; have E2f := blk_free E2; have E2l := blk_lt E2
    simp -dsimp [go_sem, E2c, E2f, E2l]
    refine end_intro hd ?_
    rintro w4 s4
    try simp -dsimp [go_sem]
    exact Step.keep (Keep.trans k02 hs) s4 (fun j q => by omega)
  · rintro e V _ q; exact q.elim
theorem nil_Right (w : World) : Calls Tryz.prog 24 #[.pointer none] w fun r w' => r = .returned (.bool false) ∧ Keep w w' := by
  refine calls_rx h24 Tryz.func24 rfl Tryz.mixed (by kernel_rfl) Tryz.results24 ?_
  simp -dsimp [go_sem]
  generalize hW : (w.alloc _).alloc _ = W
  obtain ⟨S0, O0, k0, z0⟩ := alloc2 hW
  clear hW
  refine (nil_dir 1 W).mono ?_; rintro _ w1 ⟨rfl, k1⟩; refine ret_intro ?_
  replace S0 := Step.blk k1 S0 (fun q => q); replace O0 := Step.blk k1 O0 (fun q => q)
  unfold Node.enc node0
  simp -dsimp [go_sem]
  generalize hW : w1.alloc _ = W2
  obtain ⟨N0, k2, z2⟩ := alloc1s hW
  clear hW
  replace S0 := Step.blk k2 S0 (fun q => q); replace O0 := Step.blk k2 O0 (fun q => q)
  have S0c := blk_cell S0; have S0f := blk_free S0; have S0l := blk_lt S0; have O0c := blk_cell O0; have O0f := blk_free O0; have O0l := blk_lt O0; have N0c := blk_cell N0; have N0f := blk_free N0; have N0l := blk_lt N0
  try simp -dsimp [go_sem, S0c, S0f, S0l, O0c, O0f, O0l, N0c, N0f, N0l]
  exact Step.keep (Keep.trans k0 (Keep.trans k1 k2)) (O' := fun k => k = w.heap.size + 1) (by (repeat (with_reducible first | exact Step.refl _ _ | refine Step.drew ?_ | refine Step.set ?_ ?_ _)); all_goals (first | exact .inl rfl | exact .inl (by simp))) (fun j q => by omega)
end Go.Proofs.YtdfjfagljngciaaGreatDoor
