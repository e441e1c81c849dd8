/- Package state: Right holds (draft). -/
import Derived.Test.YtdfjfagljngciaaGreatNmd
import Derived.Test.YtdfjfagljngciaaGreatCmp
set_option linter.all false
set_option maxRecDepth 100000
set_option maxHeartbeats 4000000
namespace Go.Proofs.YtdfjfagljngciaaGreat
open Go.RowKit Rx Go.MapKept

theorem sort_ints (v : Value) (l : List Int) (w : World) (h : Ow rInt 3 (fun _ => True) w v l) (hl : l.length ≤ 2 ^ 40) :
    Calls Tryz.prog 130 #[v] w fun e w' => e = .returned (.tuple #[]) ∧ Sl rInt (fun _ => False) w' v (l.mergeSort (fun x y => decide (x ≤ y))) ∧ Step (fun k => ownB v = some k) w w' := by
  have h0 : Sl rInt (fun _ => False) w v l := (h.all flat_int (Y := fun _ => False)).sl (fun _ _ q => q)
  by_cases g0 : l = []
  · subst g0
    obtain ⟨a, c, rfl, -⟩ := id h0
    refine (AnyM.slices_Sort_int_none Tryz.sortA a c w).mono ?_
    rintro e w' ⟨rfl, rfl⟩
    exact ⟨rfl, by simpa using h0, Step.refl _ _⟩
  have hpos := List.length_pos_iff.2 g0
  rcases h.split with ⟨a', rfl, e, -⟩ | ⟨xs, o1, o2, hb⟩
  · exact absurd e g0
  rcases o1.2 with ⟨-, e⟩ | ⟨g, off, cap, cur, rfl, hg, hc1, hc2, hc3, hc4⟩
  · omega
  obtain ⟨a, c, e, h1, h2, h3⟩ := id h0
  cases e
  obtain ⟨b', off', e, hbl, -, hcell⟩ := h3 hpos
  cases e
  have hI : ∀ x ∈ l, I64 x := fun x hx => by
    obtain ⟨i, hi, rfl⟩ := List.mem_iff_getElem.1 hx
    obtain ⟨cs, ⟨-, q⟩, -⟩ := hcell i _ (List.getElem?_eq_getElem hi)
    exact q
  have hH : Sort.Holds (Value.int .i64) w g off l.toArray := fun j hj => by
    have hj' : j < l.length := by simpa using hj
    obtain ⟨cs, ⟨rfl, -⟩, q2⟩ := hcell j _ (List.getElem?_eq_getElem hj')
    refine ⟨?_, blk_free hg _⟩
    have := q2 0 (.int .i64 l[j]) rfl
    rw [show off + j * rInt.n + 0 = off + j from by show off + j * 1 + 0 = _; omega] at this
    rw [this]
    simp [hj']
  refine (AnyM.slices_Sort_int Tryz.sortA g off cap l w hH hbl (by omega)).mono ?_
  rintro e w' ⟨rfl, n, os, rfl⟩
  have hlen : (l.mergeSort (fun x y => decide (x ≤ y))).length = l.length := List.length_mergeSort _
  refine ⟨rfl, ⟨_, cap, by rw [hlen], by omega, h2, fun _ => ⟨g, off, rfl, ?_, id, fun i x hx => ?_⟩⟩, ⟨rfl, rfl, rfl, ?_, fun k hk hne => ?_⟩⟩
  · simp; omega
  · have hi := (List.getElem?_eq_some_iff.1 hx).1
    refine ⟨[.int .i64 x], ⟨rfl, hI x ((List.mergeSort_perm _ _).mem_iff.1 (List.mem_of_getElem? hx))⟩, fun j u hu => ?_⟩
    obtain ⟨rfl, rfl⟩ : j = 0 ∧ u = .int .i64 x := by
      cases j with
      | zero => simpa using hu.symm
      | succ j => simp at hu
    rw [Sort.cell?_grow _ _ _ (by simpa using hbl)]
    have := Sort.cell?_putRow (Value.int .i64) (Sort.ahead w n) g off l.toArray (l.mergeSort (fun x y => decide (x ≤ y))).toArray (Sort.holds_ahead _ w n g off _ hH) (by simp [hlen]) i (by simpa using hi)
    rw [show off + i * rInt.n + 0 = off + i from by show off + i * 1 + 0 = _; omega]
    rw [this]
    have h0' : (l.mergeSort (fun x y => decide (x ≤ y))).toArray[i]! = x := by
      rw [List.getElem!_toArray, List.getElem!_eq_getElem?_getD, hx]; rfl
    rw [h0']
  · simp
  · rw [Sort.heap_grow_old _ _ (by simpa using hk)]
    have : g ≠ k := fun e => hne (by rw [hb, e]; rfl)
    simp [Sort.putRow, Sort.mapBlock, Sort.ahead, Array.getElem?_modify, this]

theorem state_Right (X : Nat → Prop) (b m : Nat) (s : St) (k : Nat) (hg : Good k s) (hlo : s.last ≤ k + 1) (hk : k ≤ 2 ^ 10) (ht : Tr (fun _ => 0) s) (hnd : (refsS s).Nodup) (hrt : ((getL s.L 1).isSome && decide (((getL s.L 1).getD node0).kind = 2)) = true) (w : World) (h : StAt w X b m s) :
    Calls Tryz.prog 101 #[.pointer (some ⟨b, 0, none⟩)] w fun r w' => r = .returned (.bool true) ∧ Keep w w' := by
  have hf := hg.fine (by omega)
  have hl40 : s.L.length ≤ 2 ^ 40 := Nat.le_trans hg.len (by omega)
  have hrn := right_times hg ht
  refine calls_rx h101 Tryz.func101 rfl Tryz.mixed (by kernel_rfl) Tryz.results101 ?_
  simp -dsimp [go_sem]
  generalize hW : (w.alloc _).alloc _ = W
  obtain ⟨S0, O0, k0, z0⟩ := alloc2 hW
  clear hW
  refine (state_dir X b m s hf.d 1 hf.sz W (h.keep k0)).mono ?_; rintro _ w1 ⟨p, q, rfl, n1, k1⟩; refine ret_intro ?_
  rw [hrt]
  obtain ⟨pa, pc, ma, mc0, rfl, rfl, -⟩ := n1.slices
  replace S0 := Step.blk k1 S0 (fun q => q); replace O0 := Step.blk k1 O0 (fun q => q)
  have k01 := Keep.trans k0 k1
  unfold Node.enc
  simp -dsimp [go_sem]
  generalize hW : w1.alloc _ = W1
  obtain ⟨N1, k1', z1'⟩ := alloc1 hW
  clear hW
  replace S0 := Step.blk k1' S0 (fun q => q); replace O0 := Step.blk k1' O0 (fun q => q)
  have k01 := Keep.trans k01 k1'
  have N1c := blk_cell N1; have N1f := blk_free N1; have N1l := blk_lt N1; have S0c := blk_cell S0; have S0f := blk_free S0; have S0l := blk_lt S0; have O0c := blk_cell O0; have O0f := blk_free O0; have O0l := blk_lt O0
  simp -dsimp [go_sem, N1c, N1f, N1l, S0c, S0f, S0l, O0c, O0f, O0l]
  refine (state_named X b m s k hg hlo hk ht W1 (h.keep k01)).mono ?_; rintro _ w2 ⟨mc, rfl, C2, k2, hmc⟩; refine ret_intro ?_
  replace S0 := Step.blk k2 S0 (fun q => q); replace O0 := Step.blk k2 O0 (fun q => q)
  have k02 := Keep.trans k01 k2
  have S0c := blk_cell S0; have S0f := blk_free S0; have S0l := blk_lt S0; have O0c := blk_cell O0; have O0f := blk_free O0; have O0l := blk_lt O0
  simp -dsimp [go_sem, S0c, S0f, S0l, O0c, O0f, O0l]
  generalize hW : w2.alloc _ = W2
  obtain ⟨M0, k3, z3⟩ := alloc1 hW
  clear hW
  have C3 := C2.keep k3
  have k03 := Keep.trans k02 k3
  refine (state_Nodes (some ⟨b, 0, none⟩) W2).mono ?_; rintro _ w4 ⟨np, rfl, P2, k4, hp1, hp2⟩; refine ret_intro ?_
  have k04 := Keep.trans k03 k4
  have C4 := C3.keep k4
  have h4 := h.keep k04
  have M4 := k4.blk M0 (fun q => q)
  have S4 := k4.blk (k3.blk S0 (fun q => q)) (fun q => q)
  have O4 := k4.blk (k3.blk O0 (fun q => q)) (fun q => q)
  clear S0c S0f S0l O0c O0f O0l
  simp -dsimp [go_sem]
  refine range_intro (nodes_iter _ b m s hg.srt hf.sz hl40 w4 h4 np P2 (fun _ => False) (fun k q => q.elim)) nodes_eg
    (fun i A V => A = (fun _ => False) ∧ Keep w4 V)
    (fun _ _ => False) (by first | rfl | simp -dsimp [go_sem]) (by first | rfl | simp -dsimp [go_sem]) ?_ ?_ ?_ ?_ ?_ ?_ ?_
  · rintro i A V ⟨rfl, hs⟩ j q; exact q.elim
  · rintro i A V V' ⟨rfl, hs⟩ hst
    exact ⟨rfl, Step.keep hs hst (fun j q => by omega)⟩
  · rintro e V V' q; exact q.elim
  · exact ⟨rfl, Keep.refl _⟩
  · rintro i x A V vs hx ⟨rfl, hs⟩ ⟨pp, pq, rfl, nn, xok, b1, b2, bl⟩
    refine ⟨rfl, ?_⟩
    obtain ⟨qa, qc, na, nc, rfl, rfl, -⟩ := nn.slices
    have hxm : x ∈ s.L := List.mem_of_getElem? hx
    obtain ⟨t1, t2⟩ := hrn x hxm
    unfold Node.enc
    simp -dsimp [go_sem]
    generalize hW : V.alloc _ = V1
    obtain ⟨N1, k5, z5⟩ := alloc1 hW
    clear hW
    refine ⟨Keep.any k5, fun V2 s12 => ?_⟩
    have lV : w4.heap.size + 1 < V.heap.size := bl _ (.inr (.inr rfl))
    have l12 := s12.size
    have N2 := s12.blk N1 (by omega)
    have kV2 : Keep w4 V2 := Step.keep (Keep.trans hs k5) s12 (fun j q => by omega)
    have M2 := kV2.blk M4 (fun q => q)
    have S2 := kV2.blk S4 (fun q => q)
    have h2 := h4.keep kV2
    have C5 := C4.keep kV2
    have N2c := blk_cell N2; have N2f := blk_free N2; have N2l := blk_lt N2; have M2c := blk_cell M2; have M2f := blk_free M2; have M2l := blk_lt M2; have S2c := blk_cell S2; have S2f := blk_free S2; have S2l := blk_lt S2
    have fin : ∀ V', Keep V2 V' → ∃ A' : Nat → Prop, ((A' = fun _ => False) ∧ Keep w4 V') ∧ Step (fun k => False ∨ V.heap.size ≤ k) V2 V' ∧ ∀ k, A' k → False ∨ V.heap.size ≤ k := fun V' kk => ⟨_, ⟨rfl, Keep.trans kV2 kk⟩, Keep.any kk, fun j q => q.elim⟩
    by_cases d1 : x.kind = 1
    · have d1' : decide (x.kind = 1) = true := decide_eq_true d1
      have d2 : ¬ x.kind = 2 := by omega
      simp -dsimp [go_sem, N2c, N2f, N2l, M2c, M2f, M2l, S2c, S2f, S2l, d1', d2]
      refine look_intro (C5.look x.ino) ?_
      rw [t1 d1]
      simp -dsimp [go_sem, N2c, N2f, N2l, M2c, M2f, M2l, S2c, S2f, S2l, d1', d2]
      exact fin V2 (Keep.refl V2)
    have d2 : x.kind = 2 := (ht.kd x hxm).resolve_left d1
    have d2' : decide (x.kind = 2) = true := decide_eq_true d2
    by_cases d3 : x.ino = 1
    · simp -dsimp [go_sem, N2c, N2f, N2l, M2c, M2f, M2l, S2c, S2f, S2l, d1, d2', d3]
      exact fin V2 (Keep.refl V2)
    obtain ⟨t3, t4⟩ := t2 d2 d3
    simp -dsimp [go_sem, N2c, N2f, N2l, M2c, M2f, M2l, S2c, S2f, S2l, d1, d2', d3]
    refine look_intro (C5.look x.ino) ?_
    rw [t3]
    simp -dsimp [go_sem, N2c, N2f, N2l, M2c, M2f, M2l, S2c, S2f, S2l, d1, d2', d3]
    refine (state_Within X b m s hf x.ino 1 V2 h2).mono ?_; rintro _ V3 ⟨rfl, k6⟩; refine ret_intro ?_
    rw [t4]
    simp -dsimp [go_sem]
    exact fin V3 k6
  · rintro A V ⟨rfl, hs⟩ hd
    have kV := Keep.trans k04 hs
    have S5 := hs.blk S4 (fun q => q)
    have S5c := blk_cell S5; have S5f := blk_free S5; have S5l := blk_lt S5
    simp -dsimp [go_sem, S5c, S5f, S5l]
    refine (state_Refs X b m s k hg (by omega) V (h.keep kV)).mono ?_; rintro _ V8 ⟨v, rfl, o8, k8, b8⟩; refine ret_intro ?_
    obtain ⟨va, vc, rfl, -⟩ := o8.slice
    simp -dsimp [go_sem]
    have hrl := refs_bd hg (by omega)
    have hrl40 : (refsS s).length ≤ 2 ^ 40 := by omega
    refine (sort_ints _ (refsS s) V8 o8 hrl40).mono ?_
    rintro _ V9 ⟨rfl, h9, s9⟩
    refine ret_intro ?_
    have hlen : ((refsS s).mergeSort (fun x y => decide (x ≤ y))).length = (refsS s).length := List.length_mergeSort _
    have hnd2 : ((refsS s).mergeSort (fun x y => decide (x ≤ y))).Nodup := (List.mergeSort_perm _ _).nodup_iff.2 hnd
    generalize (refsS s).mergeSort (fun x y => decide (x ≤ y)) = L at h9 hlen hnd2
    simp -dsimp [go_sem]
    refine (clone_ints (fun _ => False) _ L V9 h9 (by omega)).mono ?_
    rintro _ V10 ⟨v10, rfl, o10, k10, b10⟩
    refine ret_intro ?_
    obtain ⟨va10, vc10, rfl, -⟩ := o10.slice
    simp -dsimp [go_sem]
    refine (compact_apart (fun _ => False) _ L V10 (o10.sl (fun _ _ q => q)) hnd2).mono ?_
    rintro _ V11 ⟨rfl, k11⟩
    refine ret_intro ?_
    have lV := blk_lt hd
    have hout : ∀ j, j < V.heap.size → ¬ ownB (.slice va (refsS s).length vc) = some j := fun j hj q => by have := b8 j q; omega
    have l40 := k04.size
    have l0V := hs.size
    have lw := k0.size
    have lS := blk_lt S5
    have lO4 := blk_lt O4
    have O5 := hs.blk O4 (fun q => q)
    have lO := blk_lt O5
    have O11 := (Keep.trans k10 k11).blk (s9.blk (k8.blk O5 (fun q => q)) (hout _ lO)) (fun q => q)
    have hd11 := (Keep.trans k10 k11).blk (s9.blk (k8.blk hd (fun q => q)) (hout _ lV)) (fun q => q)
    have kV11 : Keep w V11 := Keep.trans (Step.keep (Keep.trans kV k8) s9 (fun j q => by have := b8 j q; have := kV.size; omega)) (Keep.trans k10 k11)
    have O11c := blk_cell O11; have O11f := blk_free O11; have O11l := blk_lt O11
    simp -dsimp [go_sem, hlen, O11c, O11f, O11l]
    refine end_intro (by first | exact hd11 | exact blk_far hd11 (by simp; omega) _) ?_
    rintro V12 s12
    have O12 := s12.blk (blk_set O11 0 (.bool true)) (by omega)
    clear O11c O11f O11l
    have O12c := blk_cell O12; have O12f := blk_free O12; have O12l := blk_lt O12
    simp -dsimp [go_sem, O12c, O12f, O12l]
    have sS : Step (fun k => k = w.heap.size + 1) V11 (V11.setCell ⟨w.heap.size + 1, 0, none⟩ (.bool true)) := (Step.refl (fun k => k = w.heap.size + 1) V11).set (.inl rfl) _
    exact Step.keep (Step.keep kV11 sS (fun j q => by omega)) s12 (fun j q => by omega)
  · rintro e V _ q; exact q.elim
end Go.Proofs.YtdfjfagljngciaaGreat
