/- Package state: Right, of any nodes: what it answers. Package state: Of, of any nodes. -/
import Derived.Test.YtdfjfagljngciaaGreatRig
import Derived.Test.YtdfjfagljngciaaGreatNma
import Derived.Test.YtdfjfagljngciaaGreatCmp
set_option linter.all false
set_option maxRecDepth 100000
set_option maxHeartbeats 4000000
namespace Go.Proofs.YtdfjfagljngciaaGreat
open Go.RowKit Rx Go.MapKept

/-- A node is named as often as it says. -/
def nodeB (s : St) (x : Node) : Bool := if x.kind = 1 then decide (timesL s.L x.ino = x.links) else if x.kind = 2 ∧ ¬ x.ino = 1 then decide (timesL s.L x.ino = 1) && withinS s x.ino 1 else true
def allB (s : St) : Bool := s.L.all (nodeB s)
def takeB (s : St) (i : Nat) : Bool := (s.L.take i).all (nodeB s)
def rigS (s : St) : Bool := isDir s 1 && allOk s && allB s && sideB ((refsS s).mergeSort (fun x y => decide (x ≤ y)))
theorem all_bad {s : St} {x : Node} (hx : x ∈ s.L) (h : nodeB s x = false) : allB s = false := by
  unfold allB
  cases hq : s.L.all (nodeB s) with
  | false => rfl
  | true => rw [List.all_eq_true.1 hq x hx] at h; cases h
theorem numB_iff {n : Int} : numB n = true ↔ 1 ≤ n ∧ n ≤ 1048576 := by unfold numB; simp
theorem rightL_mem {l : List Entry} (h : rightL l = true) : ∀ x ∈ l, x.name.size ≤ 24 ∧ 1 ≤ x.ino ∧ x.ino ≤ 1048576 := by
  intro x hx
  obtain ⟨i, hi, rfl⟩ := List.mem_iff_getElem.1 hx
  have h1 := List.all_eq_true.1 h i (List.mem_range.2 hi)
  rw [List.getElem?_eq_getElem hi] at h1
  unfold stepB at h1
  simp only [Bool.and_eq_true, decide_eq_true_eq] at h1
  exact ⟨nameC_size h1.1.1.1, h1.1.1.2, h1.1.2⟩
theorem rightN_ok {n : Node} {k : Nat} (h : rightN n = true) (hl : rightL n.names = true) (hk : n.names.length ≤ k) : NodeOk k n ∧ 1 ≤ n.ino ∧ n.ino ≤ 1048576 := by
  unfold rightN at h
  simp only [Bool.and_eq_true, decide_eq_true_eq] at h
  obtain ⟨⟨⟨h1, h2⟩, h3⟩, h4⟩ := h
  refine ⟨⟨hk, fun x hx => ⟨(rightL_mem hl x hx).1, (rightL_mem hl x hx).2.1⟩, by omega, h3, ?_⟩, numB_iff.1 h1⟩
  split at h4
  · rename_i q
    simp only [Bool.and_eq_true, decide_eq_true_eq] at h4
    obtain ⟨⟨⟨⟨a1, a2⟩, a3⟩, a4⟩, a5⟩ := h4
    exact .inl ⟨q, a3, a4, by omega, List.length_eq_zero_iff.1 a2⟩
  · split at h4
    · rename_i q
      simp only [Bool.and_eq_true, decide_eq_true_eq] at h4
      exact .inr ⟨q, List.length_eq_zero_iff.1 h4.1.1.1.2⟩
    · cases h4
theorem nmOk_iff {s : St} {n : Node} (h : nmOk s n = true) : rightN n = true ∧ rightL n.names = true ∧ n.ino ≤ s.last ∧ ∀ x ∈ n.names, entOk s n x = true := by
  unfold nmOk at h
  simp only [Bool.and_eq_true, decide_eq_true_eq] at h
  exact ⟨h.1.1.1, h.1.1.2, h.1.2, List.all_eq_true.1 h.2⟩
/-- Of nodes that are so, sizes are bounded. -/
theorem good_any {s : St} {k : Nat} (hsrt : s.L.Pairwise (fun a b => a.ino < b.ino)) (hlen : s.L.length ≤ k + 1) (hn : ∀ n ∈ s.L, n.names.length ≤ k) (hall : allOk s = true) (hr : isDir s 1 = true) (hlast : s.last ≤ 4611686018427387904 + k + 1) : Good k s := by
  have ha : ∀ n ∈ s.L, NodeOk k n ∧ (1 ≤ n.ino ∧ n.ino ≤ 1048576) ∧ n.ino ≤ s.last := fun n hm => by
    obtain ⟨h1, h2, h3, -⟩ := nmOk_iff (List.all_eq_true.1 hall n hm)
    exact ⟨(rightN_ok h1 h2 (hn n hm)).1, (rightN_ok h1 h2 (hn n hm)).2, h3⟩
  refine ⟨hsrt, fun n hm => ⟨(ha n hm).2.1.1, (ha n hm).2.2⟩, ?_, hlast, hlen, fun n hm => (ha n hm).1⟩
  obtain ⟨x, hx⟩ := Option.isSome_iff_exists.1 (isDir_some hr).1
  obtain ⟨h1, h2⟩ := getL_some hx
  have := ha x h1
  omega
theorem fine_any {s : St} (hg : Wee s) (hall : allOk s = true) (hl : I64 (s.last + 1)) : Fine s :=
  ⟨hg.inos, fun n hn => by have := hg.sz n hn; omega, hl, fun n hn => by
    obtain ⟨h1, h2, h3, -⟩ := nmOk_iff (List.all_eq_true.1 hall n hn)
    have h4 := (rightN_ok h1 h2 (Nat.le_refl _)).1
    have := h4.l1
    unfold rightN at h1
    simp only [Bool.and_eq_true, decide_eq_true_eq] at h1
    omega⟩

theorem state_Right_any (X : Nat → Prop) (b m : Nat) (s : St) (hg : Wee s) (hlast : s.last ≤ 4611686018427387904 + 65536) (w : World) (h : StAt w X b m s) :
    Calls Tryz.prog 101 #[.pointer (some ⟨b, 0, none⟩)] w fun r w' => r = .returned (.bool (rigS s)) ∧ Keep w w' := by
  have hI := hg.inos
  have hl40 : s.L.length ≤ 2 ^ 40 := Nat.le_trans hg.len (by omega)
  have hsz : ∀ n ∈ s.L, n.pages.length ≤ 2 ^ 20 ∧ n.names.length ≤ 2 ^ 20 := fun n hn => by have := hg.sz n hn; omega
  refine calls_rx h101 Tryz.func101 rfl Tryz.mixed (by kernel_rfl) Tryz.results101 ?_
  simp -dsimp [go_sem]
  generalize hW : (w.alloc _).alloc _ = W
  obtain ⟨S0, O0, k0, z0⟩ := alloc2 hW
  clear hW
  refine (state_dir X b m s hI 1 hsz W (h.keep k0)).mono ?_; rintro _ w1 ⟨p, q, rfl, n1, k1⟩; refine ret_intro ?_
  rw [show ((getL s.L 1).isSome && decide (((getL s.L 1).getD node0).kind = 2)) = isDir s 1 from rfl]
  obtain ⟨pa, pc, ma, mc0, rfl, rfl, -⟩ := n1.slices
  replace S0 := Step.blk k1 S0 (fun q => q); replace O0 := Step.blk k1 O0 (fun q => q)
  have k01 := Keep.trans k0 k1
  unfold Node.enc
  cases hd1 : isDir s 1
  · simp -dsimp [go_sem]
    generalize hW : w1.alloc _ = W1
    obtain ⟨N1, k1', z1'⟩ := alloc1 hW
    clear hW
    have O1 := k1'.blk O0 (fun q => q)
    have O1c := blk_cell O1; have O1f := blk_free O1; have O1l := blk_lt O1
    try simp -dsimp [go_sem, O1c, O1f, O1l]
    refine ⟨by unfold rigS; rw [hd1]; rfl, ?_⟩
    exact Step.keep (Keep.trans (Keep.trans k0 k1) k1') (O' := fun k => k = w.heap.size + 1) (by (repeat (with_reducible first | exact Step.refl _ _ | refine Step.drew ?_ | refine Step.set ?_ ?_ _)); all_goals (first | exact .inl rfl | exact .inl (by simp))) (fun j q => by omega)
  simp -dsimp [go_sem]
  generalize hW : w1.alloc _ = W1
  obtain ⟨N1, k1', z1'⟩ := alloc1 hW
  clear hW
  replace S0 := Step.blk k1' S0 (fun q => q); replace O0 := Step.blk k1' O0 (fun q => q)
  have k01 := Keep.trans k01 k1'
  have N1c := blk_cell N1; have N1f := blk_free N1; have N1l := blk_lt N1; have S0c := blk_cell S0; have S0f := blk_free S0; have S0l := blk_lt S0; have O0c := blk_cell O0; have O0f := blk_free O0; have O0l := blk_lt O0
  simp -dsimp [go_sem, N1c, N1f, N1l, S0c, S0f, S0l, O0c, O0f, O0l]
  refine (state_named_any X b m s hg W1 (h.keep k01)).mono ?_
  rintro _ w2 (⟨hall, mc, rfl, C2, k2, hmc⟩ | ⟨hall, rfl, k2⟩)
  rotate_left
  · refine ret_intro ?_
    clear N1c N1f N1l S0c S0f S0l O0c O0f O0l
    replace S0 := Step.blk k2 S0 (fun q => q); replace O0 := Step.blk k2 O0 (fun q => q)
    have S0c := blk_cell S0; have S0f := blk_free S0; have S0l := blk_lt S0; have O0c := blk_cell O0; have O0f := blk_free O0; have O0l := blk_lt O0
    simp -dsimp [go_sem, S0c, S0f, S0l, O0c, O0f, O0l]
    refine ⟨by unfold rigS; rw [hall, Bool.and_false]; rfl, ?_⟩
    exact Step.keep (Keep.trans k01 k2) (((Step.refl (fun k => k = w.heap.size + 1) w2).set (p := ⟨w.heap.size + 1, 0, none⟩) (.inl rfl) _).alloc _) (fun j q => by omega)
  refine ret_intro ?_
  clear N1c N1f N1l S0c S0f S0l O0c O0f O0l
  replace S0 := Step.blk k2 S0 (fun q => q); replace O0 := Step.blk k2 O0 (fun q => q)
  have k02 := Keep.trans k01 k2
  have S0c := blk_cell S0; have S0f := blk_free S0; have S0l := blk_lt S0; have O0c := blk_cell O0; have O0f := blk_free O0; have O0l := blk_lt O0
  simp -dsimp [go_sem, S0c, S0f, S0l, O0c, O0f, O0l]
  generalize hW : w2.alloc _ = W2
  obtain ⟨M0, k3, z3⟩ := alloc1 hW
  clear hW
  have C3 := C2.keep k3
  have k03 := Keep.trans k02 k3
  refine (state_Nodes (some ⟨b, 0, none⟩) W2).mono ?_; rintro _ w4 ⟨np, rfl, P2, k4, hp1, hp2⟩; refine ret_intro ?_
  have k04 := Keep.trans k03 k4
  have C4 := C3.keep k4
  have M4 := k4.blk M0 (fun q => q)
  have S4 := k4.blk (k3.blk S0 (fun q => q)) (fun q => q)
  have lO3 := blk_lt (k3.blk O0 (fun q => q))
  have O4 := k4.blk (k3.blk O0 (fun q => q)) (fun q => q)
  have lO4 := blk_lt O4
  have h4 := h.wide (Y := fun k => k = w.heap.size + 1) k04 (fun k q => by omega)
  have hbm := h.size_b
  clear S0c S0f S0l O0c O0f O0l
  simp -dsimp [go_sem]
  have l3 := k3.size
  have l2 := k2.size
  have hrootl : 1 ≤ s.last := (good_any (k := 65536) hg.srt (by have := hg.len; omega) (fun n hn => by have := (hg.sz n hn).2; omega) hall hd1 (by omega)).l0
  have hgd : Good 65536 s := good_any hg.srt (by have := hg.len; omega) (fun n hn => by have := (hg.sz n hn).2; omega) hall hd1 (by omega)
  have hf : Fine s := fine_any hg hall (by unfold I64; omega)
  refine range_intro (nodes_iter _ b m s hg.srt hsz hl40 w4 h4 np P2 (fun k => k = w.heap.size + 1) (fun k q => ⟨.inr q, by omega, by omega, by omega⟩)) nodes_eg
    (fun i A V => A = (fun k => k = w.heap.size + 1) ∧ Keep w4 V ∧ takeB s i = true)
    (fun e V => e = .ret ∧ allB s = false ∧ Step (fun k => k = w.heap.size + 1) w4 V ∧ V.heap[w.heap.size + 1]? = some (.cells #[.bool false] 4 (0, 0))) (by first | rfl | simp -dsimp [go_sem]) (by first | rfl | simp -dsimp [go_sem]) ?_ ?_ ?_ ?_ ?_ ?_ ?_
  · rintro i A V ⟨rfl, hs, ha⟩ j q
    have := hs.size
    exact ⟨by omega, by omega, by omega⟩
  · rintro i A V V' ⟨rfl, hs, ha⟩ hst
    exact ⟨rfl, Step.keep hs hst (fun j q => by omega), ha⟩
  · rintro e V V' ⟨rfl, h0, h1, h2⟩ hst
    exact ⟨rfl, h0, h1.trans hst (fun j hj q => by omega), hst.blk h2 (by omega)⟩
  · exact ⟨rfl, Keep.refl _, by simp [takeB]⟩
  · rintro i x A V vs hx ⟨rfl, hs, ha⟩ ⟨pp, pq, rfl, nn, xok, b1, b2, bl⟩
    refine ⟨rfl, ?_⟩
    obtain ⟨qa, qc, na, nc, rfl, rfl, -⟩ := nn.slices
    have hxm : x ∈ s.L := List.mem_of_getElem? hx
    unfold Node.enc
    simp -dsimp [go_sem]
    generalize hW : V.alloc _ = V1
    obtain ⟨N1, k5, z5⟩ := alloc1 hW
    clear hW
    refine ⟨Keep.any k5, fun V2 s12 => ?_⟩
    have lV : w4.heap.size + 1 < V.heap.size := bl _ (.inr (.inr rfl))
    have l12 := s12.size
    have N2 := s12.blk N1 (by omega)
    have kV2 : Keep w4 V2 := Step.keep (Keep.trans hs k5) s12 (fun j q => by omega)
    have M2 := kV2.blk M4 (fun q => q)
    have S2 := kV2.blk S4 (fun q => q)
    have O2 := kV2.blk O4 (fun q => q)
    have h2 := h4.keep kV2
    have C5 := C4.keep kV2
    have N2c := blk_cell N2; have N2f := blk_free N2; have N2l := blk_lt N2; have M2c := blk_cell M2; have M2f := blk_free M2; have M2l := blk_lt M2; have S2c := blk_cell S2; have S2f := blk_free S2; have S2l := blk_lt S2
    have fin : nodeB s x = true → ∀ V', Keep V2 V' → ∃ A' : Nat → Prop, ((A' = fun k => k = w.heap.size + 1) ∧ Keep w4 V' ∧ takeB s (i + 1) = true) ∧ Step (fun k => k = w.heap.size + 1 ∨ V.heap.size ≤ k) V2 V' ∧ ∀ k, A' k → k = w.heap.size + 1 ∨ V.heap.size ≤ k := fun hb V' kk => ⟨_, ⟨rfl, Keep.trans kV2 kk, by unfold takeB at ha ⊢; rw [List.take_add_one, hx, List.all_append, ha]; simp [hb]⟩, Keep.any kk, fun j q => .inl q⟩
    have stop : nodeB s x = false → ∀ V', Keep V2 V' → ∀ V'', V'' = V'.setCell ⟨w.heap.size + 1, 0, none⟩ (.bool false) → (allB s = false ∧ Step (fun k => k = w.heap.size + 1) w4 V'' ∧ V''.heap[w.heap.size + 1]? = some (.cells #[.bool false] 4 (0, 0))) ∧ Step (fun k => k = w.heap.size + 1 ∨ V.heap.size ≤ k) V2 V'' := by
      rintro q V' kk V'' rfl
      exact ⟨⟨all_bad hxm q, (show Step (fun k => k = w.heap.size + 1) w4 V' from Keep.any (Keep.trans kV2 kk)).set (.inl rfl) _, blk_eq (blk_set (kk.blk O2 (fun q => q)) 0 _) (by first | rfl | simp)⟩, (Keep.any kk).set (.inl (.inl rfl)) _⟩
    by_cases d1 : x.kind = 1
    · have d1' : decide (x.kind = 1) = true := decide_eq_true d1
      have d2 : ¬ x.kind = 2 := by omega
      by_cases t1 : timesL s.L x.ino = x.links
      · simp -dsimp [go_sem, N2c, N2f, N2l, M2c, M2f, M2l, S2c, S2f, S2l, d1', d2]
        refine look_intro (C5.look x.ino) ?_
        rw [t1]
        simp -dsimp [go_sem, N2c, N2f, N2l, M2c, M2f, M2l, S2c, S2f, S2l, d1', d2]
        exact fin (by unfold nodeB; rw [if_pos d1, decide_eq_true t1]) V2 (Keep.refl V2)
      · have O2c := blk_cell O2; have O2f := blk_free O2; have O2l := blk_lt O2
        simp -dsimp [go_sem, N2c, N2f, N2l, M2c, M2f, M2l, S2c, S2f, S2l, d1', d2]
        refine look_intro (C5.look x.ino) ?_
        simp -dsimp [go_sem, N2c, N2f, N2l, M2c, M2f, M2l, S2c, S2f, S2l, O2c, O2f, O2l, d1', d2, t1]
        obtain ⟨e1, e2⟩ := stop (by unfold nodeB; rw [if_pos d1, decide_eq_false t1]) V2 (Keep.refl V2) _ rfl
        exact ⟨⟨rfl, e1⟩, e2⟩
    by_cases d2 : x.kind = 2
    rotate_left
    · simp -dsimp [go_sem, N2c, N2f, N2l, M2c, M2f, M2l, S2c, S2f, S2l, d1, d2]
      exact fin (by unfold nodeB; rw [if_neg d1, if_neg (fun q => d2 q.1)]) V2 (Keep.refl V2)
    have d2' : decide (x.kind = 2) = true := decide_eq_true d2
    by_cases d3 : x.ino = 1
    · simp -dsimp [go_sem, N2c, N2f, N2l, M2c, M2f, M2l, S2c, S2f, S2l, d1, d2', d3]
      exact fin (by unfold nodeB; rw [if_neg d1, if_neg (fun q => q.2 d3)]) V2 (Keep.refl V2)
    have hnb : nodeB s x = (decide (timesL s.L x.ino = 1) && withinS s x.ino 1) := by unfold nodeB; rw [if_neg d1, if_pos ⟨d2, d3⟩]
    simp -dsimp [go_sem, N2c, N2f, N2l, M2c, M2f, M2l, S2c, S2f, S2l, d1, d2', d3]
    refine look_intro (C5.look x.ino) ?_
    by_cases t3 : timesL s.L x.ino = 1
    rotate_left
    · have O2c := blk_cell O2; have O2f := blk_free O2; have O2l := blk_lt O2
      simp -dsimp [go_sem, N2c, N2f, N2l, M2c, M2f, M2l, S2c, S2f, S2l, O2c, O2f, O2l, d1, d2', d3, t3]
      obtain ⟨e1, e2⟩ := stop (by rw [hnb, decide_eq_false t3]; rfl) V2 (Keep.refl V2) _ rfl
      exact ⟨⟨rfl, e1⟩, e2⟩
    rw [t3]
    simp -dsimp [go_sem, N2c, N2f, N2l, M2c, M2f, M2l, S2c, S2f, S2l, d1, d2', d3]
    refine (state_Within _ b m s hf x.ino 1 V2 h2).mono ?_; rintro _ V3 ⟨rfl, k6⟩; refine ret_intro ?_
    cases t4 : withinS s x.ino 1
    · have O3 := k6.blk O2 (fun q => q)
      have O3c := blk_cell O3; have O3f := blk_free O3; have O3l := blk_lt O3
      simp -dsimp [go_sem, O3c, O3f, O3l]
      obtain ⟨e1, e2⟩ := stop (by rw [hnb, t4, Bool.and_false]) V3 k6 _ rfl
      exact ⟨⟨rfl, e1⟩, e2⟩
    simp -dsimp [go_sem]
    exact fin (by rw [hnb, t4, decide_eq_true t3]; rfl) V3 k6
  · rintro A V ⟨rfl, hs, ha⟩ hd
    have ha : allB s = true := by unfold takeB at ha; rw [List.take_length] at ha; exact ha
    have kV := Keep.trans k04 hs
    have S5 := hs.blk S4 (fun q => q)
    have S5c := blk_cell S5; have S5f := blk_free S5; have S5l := blk_lt S5
    simp -dsimp [go_sem, S5c, S5f, S5l]
    refine (state_Refs X b m s 65536 hgd (by omega) V (h.keep kV)).mono ?_; rintro _ V8 ⟨v, rfl, o8, k8, b8⟩; refine ret_intro ?_
    obtain ⟨va, vc, rfl, -⟩ := o8.slice
    simp -dsimp [go_sem]
    have hrl := refs_bd hgd (by omega)
    have hrl40 : (refsS s).length ≤ 2 ^ 40 := by omega
    refine (sort_ints _ (refsS s) V8 o8 hrl40).mono ?_
    rintro _ V9 ⟨rfl, h9, s9⟩
    refine ret_intro ?_
    have hlen : ((refsS s).mergeSort (fun x y => decide (x ≤ y))).length = (refsS s).length := List.length_mergeSort _
    have hrs : rigS s = sideB ((refsS s).mergeSort (fun x y => decide (x ≤ y))) := by unfold rigS; rw [hd1, hall, ha]; simp
    rw [hrs]
    generalize (refsS s).mergeSort (fun x y => decide (x ≤ y)) = L at h9 hlen
    simp -dsimp [go_sem]
    refine (clone_ints (fun _ => False) _ L V9 h9 (by omega)).mono ?_
    rintro _ V10 ⟨v10, rfl, o10, k10, b10⟩
    refine ret_intro ?_
    obtain ⟨va10, vc10, rfl, -⟩ := o10.slice
    simp -dsimp [go_sem]
    refine (compact_any _ L (by omega) V10 (o10.all flat_int)).mono ?_
    rintro _ V11 ⟨ca, cn, cc, rfl, hcn, hcs, s11⟩
    refine ret_intro ?_
    have lV := blk_lt hd
    have hout : ∀ j, j < V.heap.size → ¬ ownB (.slice va (refsS s).length vc) = some j := fun j hj q => by have := b8 j q; omega
    have hout10 : ∀ j, ownB (.slice va10 L.length vc10) = some j → V9.heap.size ≤ j := b10
    have l8 := k8.size
    have l9 := s9.size
    have l40 := k04.size
    have l0V := hs.size
    have lw := k0.size
    have lS := blk_lt S5
    have lO4 := blk_lt O4
    have O5 := hs.blk O4 (fun q => q)
    have lO := blk_lt O5
    have O11 := s11.blk (k10.blk (s9.blk (k8.blk O5 (fun q => q)) (hout _ lO)) (fun q => q)) (fun q => by have := hout10 _ q; omega)
    have hd11 := s11.blk (k10.blk (s9.blk (k8.blk hd (fun q => q)) (hout _ lV)) (fun q => q)) (fun q => by have := hout10 _ q; omega)
    have kV11 : Keep w V11 := Step.keep (Keep.trans (Step.keep (Keep.trans kV k8) s9 (fun j q => by have := b8 j q; have := kV.size; omega)) k10) s11 (fun j q => by have := hout10 j q; have := kV.size; omega)
    rw [hlen] at hcs
    rw [← hcs]
    have O11c := blk_cell O11; have O11f := blk_free O11; have O11l := blk_lt O11
    have fin2 : ∀ u : Bool, ∀ V12, Step (fun k => k = w4.heap.size) (V11.setCell ⟨w.heap.size + 1, 0, none⟩ (.bool u)) V12 → V12.heap[w.heap.size + 1]? = some (.cells #[.bool u] 4 (0, 0)) ∧ Keep w V12 := fun u V12 s12 => by
      have sS : Step (fun k => k = w.heap.size + 1) V11 (V11.setCell ⟨w.heap.size + 1, 0, none⟩ (.bool u)) := (Step.refl (fun k => k = w.heap.size + 1) V11).set (.inl rfl) _
      exact ⟨s12.blk (blk_eq (blk_set O11 0 (.bool u)) (by first | rfl | simp)) (by omega), Step.keep (Step.keep kV11 sS (fun j q => by omega)) s12 (fun j q => by omega)⟩
    by_cases ecn : cn = (refsS s).length
    · rw [decide_eq_true ecn]
      rw [ecn]
      simp -dsimp [go_sem, O11c, O11f, O11l]
      refine end_intro (by first | exact hd11 | exact blk_far hd11 (by simp; omega) _) ?_
      rintro V12 s12
      obtain ⟨O12, kk⟩ := fin2 _ V12 s12
      clear O11c O11f O11l
      have O12c := blk_cell O12; have O12f := blk_free O12; have O12l := blk_lt O12
      simp -dsimp [go_sem, O12c, O12f, O12l]
      exact kk
    · rw [decide_eq_false ecn]
      have ecn' : ¬ (cn : Int) = (refsS s).length := by omega
      simp -dsimp [go_sem, O11c, O11f, O11l, ecn, ecn']
      refine end_intro (by first | exact hd11 | exact blk_far hd11 (by simp; omega) _) ?_
      rintro V12 s12
      obtain ⟨O12, kk⟩ := fin2 _ V12 s12
      clear O11c O11f O11l
      have O12c := blk_cell O12; have O12f := blk_free O12; have O12l := blk_lt O12
      simp -dsimp [go_sem, O12c, O12f, O12l]
      exact kk
  · rintro e V hj ⟨rfl, hbad, hs, hR⟩ hd
    have kV : Keep w V := Step.keep k04 hs (fun j q => by omega)
    simp -dsimp [go_sem]
    refine end_intro hd ?_
    rintro V7 s7
    have R7 := s7.blk hR (by have := blk_lt hR; omega)
    have R7c := blk_cell R7; have R7f := blk_free R7; have R7l := blk_lt R7
    simp -dsimp [go_sem, R7c, R7f, R7l]
    refine ⟨by unfold rigS; rw [hbad]; simp, ?_⟩
    exact Step.keep kV s7 (fun j q => by omega)
end Go.Proofs.YtdfjfagljngciaaGreat

set_option linter.all false
set_option maxRecDepth 100000
set_option maxHeartbeats 4000000
namespace Go.Proofs.YtdfjfagljngciaaGreat
open Go.RowKit Rx Go.MapKept

/-- Nodes rise. -/
def riseB : Int → List Node → Bool
  | _, [] => true
  | b, n :: r => decide (b < n.ino) && riseB n.ino r
def ofS (l : List Node) (last : Int) : Option St := if riseB 0 l = true ∧ rigS ⟨l, last⟩ = true then some ⟨l, last⟩ else none
theorem rise_srt : ∀ {l : List Node} {b : Int}, riseB b l = true → l.Pairwise (fun a b => a.ino < b.ino) ∧ ∀ n ∈ l, b < n.ino
  | [], b, _ => ⟨List.Pairwise.nil, by simp⟩
  | x :: r, b, h => by
    unfold riseB at h
    simp only [Bool.and_eq_true, decide_eq_true_eq] at h
    obtain ⟨h1, h2⟩ := rise_srt h.2
    refine ⟨List.Pairwise.cons h2 h1, fun n hn => ?_⟩
    rcases List.mem_cons.1 hn with rfl | q
    · exact h.1
    · have := h2 n q; omega
theorem state_Of_any (v : Value) (l : List Node) (last : Int) (hlen : l.length ≤ 2 ^ 16) (hsz : ∀ n ∈ l, n.pages.length ≤ 2 ^ 16 ∧ n.names.length ≤ 2 ^ 16) (hlast : last ≤ 4611686018427387904 + 65536) (w : World) (h : Sl rNode (fun _ => False) w v l) :
    Calls Tryz.prog 61 #[v, .int .i64 last] w fun r w' => (ofS l last = none ∧ r = .returned (.tuple #[.pointer none, .bool false]) ∧ Keep w w') ∨ (∃ s b m, ofS l last = some s ∧ r = .returned (.tuple #[.pointer (some ⟨b, 0, none⟩), .bool true]) ∧ StAt w' (fun k => k = b ∨ k = m) b m s ∧ Keep w w' ∧ w.heap.size ≤ b ∧ w.heap.size ≤ m) := by
  obtain ⟨a, c, rfl, -⟩ := id h
  have h : Sl rNode (fun k => w.heap.size ≤ k) w (.slice a l.length c) l := h.mono (fun k hk q => by omega)
  refine calls_rx h61 Tryz.func61 rfl Tryz.mixed (by kernel_rfl) Tryz.results61 ?_
  simp -dsimp [go_sem]
  generalize hW : (w.alloc _).alloc _ = W
  obtain ⟨M0, B0, k0, z0⟩ := alloc2 hW
  clear hW
  refine loop_intro (σ := Nat × Int) (fun t => [.int .i64 t.2, .int .i64 t.1]) (fun t w' => t.1 ≤ l.length ∧ (riseB 0 l = riseB t.2 (l.drop t.1) ∧ (l.take t.1).Pairwise (fun a b => a.ino < b.ino) ∧ ∀ y ∈ l.take t.1, y.ino ≤ t.2) ∧ StAt w' (fun k => k = w.heap.size + 1 ∨ k = w.heap.size) (w.heap.size + 1) w.heap.size ⟨l.take t.1, last⟩ ∧ Keep w w') (fun t => l.length - t.1) (0, 0) (by simp -dsimp [go_sem]; rfl) (by simp -dsimp [go_sem]) ⟨by omega, ⟨rfl, by simp, by simp⟩, ⟨B0, ⟨#[], 0, M0, stamped_empty 0, by simp [Ents]⟩, .inl rfl, .inr rfl, fun k q => by omega⟩, k0⟩ ?_
  rintro ⟨i, bf⟩ w1 ⟨hi, ⟨hr, hpw, hbf⟩, h1, k1⟩
  simp only at hi hr hpw hbf h1
  simp -dsimp [go_sem]
  by_cases g1 : i < l.length
  rotate_left
  · obtain rfl : i = l.length := by omega
    rw [List.take_length] at h1 hpw
    rw [List.drop_length] at hr
    simp -dsimp [go_sem, Nat.lt_irrefl]
    refine (state_Right_any _ (w.heap.size + 1) w.heap.size ⟨l, last⟩ ⟨hpw, hlen, hsz⟩ hlast w1 h1).mono ?_; rintro _ w2 ⟨rfl, k2⟩; refine ret_intro ?_
    cases hb : rigS ⟨l, last⟩
    · simp -dsimp [go_sem]
      exact ⟨by unfold ofS; rw [if_neg (by rw [hb]; simp)], Keep.trans k1 k2⟩
    · simp -dsimp [go_sem]
      exact ⟨_, by unfold ofS; rw [if_pos ⟨hr, hb⟩], _, h1.keep k2, Keep.trans k1 k2, Nat.le_refl _⟩
  have hx : l[i]? = some l[i] := List.getElem?_eq_getElem _
  generalize l[i] = x at hx
  have i2 : (i : Int) < l.length := by omega
  have hdr : l.drop i = x :: l.drop (i + 1) := by
    obtain ⟨q1, q2⟩ := List.getElem?_eq_some_iff.1 hx
    rw [List.drop_eq_getElem_cons q1, q2]
  rw [hdr] at hr
  obtain ⟨b, off, cc, p, q, e, hb, -, hok, hp, hq, c0, c1, c2, c3, c4, c5, c6⟩ := (h.keep k1).node hx
  cases e
  obtain ⟨pa, pc, rfl, -⟩ := id hp
  obtain ⟨qa, qc, rfl, -⟩ := id hq
  simp -dsimp [go_sem, g1, i2, hb, c0, c1, c2, c3, c4, c5, c6]
  generalize hW : w1.alloc _ = w2
  obtain ⟨X2, k2, z2⟩ := alloc1 hW
  clear hW
  have h2 := h1.keep k2
  have H2 := h2.hb
  have X2c := blk_cell X2; have X2f := blk_free X2; have X2l := blk_lt X2; have H2c := blk_cell H2; have H2f := blk_free H2; have H2l := blk_lt H2
  by_cases hlt : x.ino ≤ bf
  · try simp -dsimp [go_sem, X2c, X2f, X2l, H2c, H2f, H2l, hlt]
    exact ⟨by unfold ofS; rw [if_neg (fun q => by rw [hr] at q; unfold riseB at q; rw [decide_eq_false (by omega)] at q; simp at q)], Keep.trans k1 k2⟩
  try simp -dsimp [go_sem, X2c, X2f, X2l, H2c, H2f, H2l, hlt]
  have kd := keep_drew w2
  have hR2 : rNode.R (fun k => w.heap.size ≤ k) w2.drew x (x.enc (.slice pa x.pages.length pc) (.slice qa x.names.length qc)) := rNode.keep (rNode.keep ⟨_, _, rfl, hp, hq, hok⟩ k2) kd
  have hszx := hsz x (List.mem_of_getElem? hx)
  refine (inode_Copy _ x _ w2.drew hR2 (by omega) (by omega)).mono ?_
  rintro _ w3 ⟨p3, q3, rfl, n3, k3⟩
  refine ret_intro ?_
  have q23 := Keep.trans kd k3
  refine ⟨Keep.agree q23 (Agree.refl _), ?_⟩
  have h3 := h2.keep q23
  have r3 : rNode.R (fun k => k = w.heap.size + 1 ∨ k = w.heap.size) w3 x (x.enc p3 q3) := n3.rep hok (fun g _ hx => by have := h2.xl g hx; exact this)
  obtain ⟨w4, hu, h4, s4⟩ := h3.upd r3 rfl
  try simp -dsimp [go_sem, X2c, X2f, X2l, H2c, H2f, H2l]
  refine upd_intro hu ?_
  have hnew : setL (l.take i) x = l.take (i + 1) := by
    have hno : getL (l.take i) x.ino = none := getL_no (fun y hy => by have := hbf y hy; omega)
    rw [setL_new hno, List.take_add_one, hx]; rfl
  rw [hnew] at h4
  simp -dsimp [go_sem]
  try simp -dsimp (disch := omega) only [IntWalk.i64_in, IntWalk.u64_in, IntWalk.u8_in]
  refine back_intro (i + 1, x.ino) (by simp -dsimp [go_sem]) (by simp -dsimp [go_sem]) ⟨by omega, ⟨?_, ?_, ?_⟩, h4, Step.keep (Keep.trans k1 (Keep.trans k2 q23)) s4 (fun j q => by omega)⟩ (by simp only; omega)
  · show riseB 0 l = riseB x.ino (l.drop (i + 1))
    rw [hr, show riseB bf (x :: l.drop (i + 1)) = (decide (bf < x.ino) && riseB x.ino (l.drop (i + 1))) from rfl, decide_eq_true (by omega)]; rfl
  · show (l.take (i + 1)).Pairwise _
    rw [List.take_add_one, hx, List.pairwise_append]
    exact ⟨hpw, by simp, fun a ha b' hb' => by simp at hb'; subst hb'; have := hbf a ha; omega⟩
  · intro y hy
    rw [List.take_add_one, hx] at hy
    rcases List.mem_append.1 hy with q | q
    · have := hbf y q; show y.ino ≤ x.ino; omega
    · simp at q; subst q; exact Int.le_refl _
end Go.Proofs.YtdfjfagljngciaaGreat
