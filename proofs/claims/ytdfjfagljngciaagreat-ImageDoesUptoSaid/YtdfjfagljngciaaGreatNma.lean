/- Package state: how often each node is named, of any nodes (draft). -/
import Derived.Test.YtdfjfagljngciaaGreatNmd
set_option linter.all false
set_option maxRecDepth 100000
set_option maxHeartbeats 4000000
namespace Go.Proofs.YtdfjfagljngciaaGreat
open Go.RowKit Rx Go.MapKept

/-- What is asked of any nodes: they rise, and there are not too many of anything. -/
structure Wee (s : St) : Prop where
  srt : s.L.Pairwise (fun a b => a.ino < b.ino)
  len : s.L.length ≤ 2 ^ 16
  sz : ∀ n ∈ s.L, n.pages.length ≤ 2 ^ 16 ∧ n.names.length ≤ 2 ^ 16
theorem Wee.inos {s : St} (h : Wee s) : Inos s.L := by
  unfold Inos
  rw [List.Nodup, List.pairwise_map]
  exact h.srt.imp (fun q => by omega)
/-- What a node and its names must be like. -/
def entOk (s : St) (n : Node) (x : Entry) : Bool := match getL s.L x.ino with | none => false | some k => !(decide (k.kind = 2) && (!decide (k.up = n.ino) || decide (x.ino = 1)))
def entsOk (s : St) (n : Node) (j : Nat) : Bool := (n.names.take j).all (entOk s n)
def nmOk (s : St) (n : Node) : Bool := rightN n && rightL n.names && decide (n.ino ≤ s.last) && n.names.all (entOk s n)
def allOk (s : St) : Bool := s.L.all (nmOk s)
def takeOk (s : St) (i : Nat) : Bool := (s.L.take i).all (nmOk s)
theorem allOk_bad {s : St} {x : Node} (hx : x ∈ s.L) (h : nmOk s x = false) : allOk s = false := by
  unfold allOk
  cases hq : s.L.all (nmOk s) with
  | false => rfl
  | true => rw [List.all_eq_true.1 hq x hx] at h; cases h
theorem nm_bad {s : St} {n : Node} {y : Entry} (hy : y ∈ n.names) (h : entOk s n y = false) : nmOk s n = false := by
  unfold nmOk
  cases hq : n.names.all (entOk s n) with
  | false => rw [Bool.and_false]
  | true => rw [List.all_eq_true.1 hq y hy] at h; cases h
theorem state_named_any (X : Nat → Prop) (b m : Nat) (s : St) (hg : Wee s) (w : World) (h : StAt w X b m s) :
    Calls Tryz.prog 129 #[.pointer (some ⟨b, 0, none⟩)] w fun r w' => (allOk s = true ∧ ∃ m', r = .returned (.tuple #[.map (some m'), .bool true]) ∧ MapC w' m' (timesL s.L) ∧ Keep w w' ∧ w.heap.size ≤ m') ∨ (allOk s = false ∧ r = .returned (.tuple #[.map none, .bool false]) ∧ Keep w w') := by
  have hl40 : s.L.length ≤ 2 ^ 40 := Nat.le_trans hg.len (by omega)
  have hI := hg.inos
  have hsz : ∀ n ∈ s.L, n.pages.length ≤ 2 ^ 20 ∧ n.names.length ≤ 2 ^ 20 := fun n hn => by have := hg.sz n hn; omega
  refine calls_rx h129 Tryz.func129 rfl Tryz.mixed (by kernel_rfl) Tryz.results129 ?_
  simp -dsimp [go_sem]
  generalize hW : ((((w.alloc _).alloc _).alloc _).alloc _).alloc _ = W
  obtain ⟨S0, R0, T0, M0, O0, k0, z0⟩ := alloc5 hW
  clear hW
  refine (state_Nodes (some ⟨b, 0, none⟩) W).mono ?_; rintro _ w2 ⟨p, rfl, P2, k2, hp1, hp2⟩; refine ret_intro ?_
  replace S0 := Step.blk k2 S0 (fun q => q); replace R0 := Step.blk k2 R0 (fun q => q); replace T0 := Step.blk k2 T0 (fun q => q); replace M0 := Step.blk k2 M0 (fun q => q); replace O0 := Step.blk k2 O0 (fun q => q)
  have k02 := Keep.trans k0 k2
  have l2 := k2.size
  obtain ⟨mb, hmb⟩ : ∃ mb, mb = w.heap.size + 1 + 1 + 1 := ⟨_, rfl⟩
  rw [← hmb] at M0
  have h2 := h.wide (Y := fun k => k = mb ∨ k = w.heap.size + 1 ∨ k = w.heap.size + 1 + 1) k02 (fun k q => by omega)
  have hbm := h.size_b
  have C0 : MapC w2 mb (fun _ => 0) := ⟨#[], 0, M0, stamped_empty 0, by simp [CntE]⟩
  simp -dsimp [go_sem]
  refine range_intro (nodes_iter _ b m s hg.srt hsz hl40 w2 h2 p P2 (fun k => k = mb ∨ k = w.heap.size + 1 ∨ k = w.heap.size + 1 + 1) (fun k q => ⟨.inr q, by omega, by omega, by omega⟩)) nodes_eg
    (fun i A V => A = (fun k => k = mb ∨ k = w.heap.size + 1 ∨ k = w.heap.size + 1 + 1) ∧ Step (fun k => k = mb ∨ k = w.heap.size + 1 ∨ k = w.heap.size + 1 + 1) w2 V ∧ MapC V mb (timesL (s.L.take i)) ∧ V.heap[w.heap.size + 1]? = some (.cells #[.map none] 163 (0, 0)) ∧ V.heap[w.heap.size + 1 + 1]? = some (.cells #[.bool false] 4 (0, 0)) ∧ takeOk s i = true)
    (fun e V => e = .ret ∧ allOk s = false ∧ Step (fun k => k = mb ∨ k = w.heap.size + 1 ∨ k = w.heap.size + 1 + 1) w2 V ∧ V.heap[w.heap.size + 1]? = some (.cells #[.map none] 163 (0, 0)) ∧ V.heap[w.heap.size + 1 + 1]? = some (.cells #[.bool false] 4 (0, 0))) (by first | rfl | simp -dsimp [go_sem]) (by first | rfl | simp -dsimp [go_sem]) ?_ ?_ ?_ ?_ ?_ ?_ ?_
  · rintro i A V ⟨rfl, hs, hc, hR, hT, ha⟩ j q
    have := hs.size
    have := blk_lt hR
    have := blk_lt hT
    exact ⟨by omega, by omega, by omega⟩
  · rintro i A V V' ⟨rfl, hs, hc, hR, hT, ha⟩ hst
    exact ⟨rfl, hs.trans hst (fun j hj q => by omega), hc.step hst (by omega), hst.blk hR (by omega), hst.blk hT (by omega), ha⟩
  · rintro e V V' ⟨rfl, h1, h2, h3, h4⟩ hst
    exact ⟨rfl, h1, h2.trans hst (fun j hj q => by omega), hst.blk h3 (by omega), hst.blk h4 (by omega)⟩
  · exact ⟨rfl, Step.refl _ _, by rw [show timesL (s.L.take 0) = fun _ => 0 from by funext j; simp [timesL, sumF]]; exact C0, R0, T0, by simp [takeOk]⟩
  · rintro i x A V vs hx ⟨rfl, hs, hc, hR, hT, ha⟩ ⟨pp, pq, rfl, nn, xok, b1, b2, bl⟩
    refine ⟨rfl, ?_⟩
    obtain ⟨pa, pc, ma, mc, rfl, rfl, -⟩ := nn.slices
    have hxm : x ∈ s.L := List.mem_of_getElem? hx
    unfold Node.enc
    simp -dsimp [go_sem]
    have lV : w2.heap.size + 1 < V.heap.size := bl _ (.inr (.inr rfl))
    generalize hW : V.alloc _ = V1
    obtain ⟨N1, k3, z3⟩ := alloc1 hW
    clear hW
    refine ⟨Keep.any k3, fun V2 s12 => ?_⟩
    have l12 := s12.size
    have N2 := s12.blk N1 (by omega)
    have hlV := hs.size
    have s02 : Step (fun k => k = mb ∨ k = w.heap.size + 1 ∨ k = w.heap.size + 1 + 1) w2 V2 := (hs.then k3).trans s12 (fun j hj q => by omega)
    have S2 := s02.blk S0 (by omega)
    have O2 := s02.blk O0 (by omega)
    have c2 := (hc.keep k3).step s12 (by omega)
    have kw : Keep w V2 := Step.keep k02 s02 (fun j q => by omega)
    have n2 : NOw V2 x (.slice pa x.pages.length pc) (.slice ma x.names.length mc) := (nn.toNOw.keep k3).step s12 (fun g hg q => b1 g hg (.inr (.inr q))) (fun g hg q => b2 g hg (.inr (.inr q)))
    have r2 : rNode.R (fun k => k = mb ∨ k = w.heap.size + 1 ∨ k = w.heap.size + 1 + 1) V2 x (x.enc (.slice pa x.pages.length pc) (.slice ma x.names.length mc)) := n2.rep xok (fun g hg q => b1 g hg (.inl q)) (fun g hg q => b2 g hg (.inl q))
    have H2 := (h.keep kw).hb
    have N2c := blk_cell N2; have N2f := blk_free N2; have N2l := blk_lt N2; have S2c := blk_cell S2; have S2f := blk_free S2; have S2l := blk_lt S2; have H2c := blk_cell H2; have H2f := blk_free H2; have H2l := blk_lt H2; have O2c := blk_cell O2; have O2f := blk_free O2; have O2l := blk_lt O2
    simp -dsimp [go_sem, N2c, N2f, N2l, S2c, S2f, S2l, H2c, H2f, H2l, O2c, O2f, O2l]
    refine (inode_Right (fun k => k = mb ∨ k = w.heap.size + 1 ∨ k = w.heap.size + 1 + 1) x _ V2 r2).mono ?_; rintro _ V3 ⟨rfl, k4⟩; refine ret_intro ?_
    have R4 := (k4.blk (s12.blk (k3.blk hR (fun q => q)) (by omega)) (fun q => q))
    have T4 := (k4.blk (s12.blk (k3.blk hT (fun q => q)) (by omega)) (fun q => q))
    have lR := blk_lt R0
    have lT := blk_lt T0
    have stop : nmOk s x = false → ∀ V', Step (fun k => k = mb) V3 V' → V'.heap[w.heap.size + 1]? = some (.cells #[.map none] 163 (0, 0)) → V'.heap[w.heap.size + 1 + 1]? = some (.cells #[.bool false] 4 (0, 0)) → ∀ V'', (V'' = (V'.setCell ⟨w.heap.size + 1, 0, none⟩ (.map none)).setCell ⟨w.heap.size + 1 + 1, 0, none⟩ (.bool false)) → (allOk s = false ∧ Step (fun k => k = mb ∨ k = w.heap.size + 1 ∨ k = w.heap.size + 1 + 1) w2 V'' ∧ V''.heap[w.heap.size + 1]? = some (.cells #[.map none] 163 (0, 0)) ∧ V''.heap[w.heap.size + 1 + 1]? = some (.cells #[.bool false] 4 (0, 0))) ∧ Step (fun k => (k = mb ∨ k = w.heap.size + 1 ∨ k = w.heap.size + 1 + 1) ∨ V.heap.size ≤ k) V2 V'' := by
      rintro q V' kk hR' hT' V'' rfl
      have sS : Step (fun k => k = w.heap.size + 1 ∨ k = w.heap.size + 1 + 1) V' ((V'.setCell ⟨w.heap.size + 1, 0, none⟩ (.map none)).setCell ⟨w.heap.size + 1 + 1, 0, none⟩ (.bool false)) := ((Step.refl (fun k => k = w.heap.size + 1 ∨ k = w.heap.size + 1 + 1) V').set (.inl (.inl rfl)) _).set (.inl (.inr rfl)) _
      exact ⟨⟨allOk_bad hxm q, ((s02.then k4).trans kk (fun j _ q => .inl q)).trans sS (fun j _ q => .inr q), blk_eq (blk_far (blk_set hR' 0 _) (by simp) _) (by first | rfl | simp), blk_eq (blk_set (blk_far hT' (by simp) _) 0 _) (by first | rfl | simp)⟩, ((Keep.any k4).trans kk (fun j _ q => .inl (.inl q))).trans sS (fun j _ q => .inl (.inr q))⟩
    cases q1 : rightN x
    · have R4c := blk_cell R4; have R4f := blk_free R4; have R4l := blk_lt R4; have T4c := blk_cell T4; have T4f := blk_free T4; have T4l := blk_lt T4
      simp -dsimp [go_sem, R4c, R4f, R4l, T4c, T4f, T4l]
      obtain ⟨e1, e2⟩ := stop (by unfold nmOk; rw [q1]; rfl) V3 (Step.refl _ _) R4 T4 _ rfl
      exact ⟨⟨rfl, e1⟩, e2⟩
    have N3 := k4.blk N2 (fun q => q)
    have S3 := k4.blk S2 (fun q => q)
    have O3 := k4.blk O2 (fun q => q)
    have H3 := k4.blk H2 (fun q => q)
    clear N2c N2f N2l S2c S2f S2l H2c H2f H2l O2c O2f O2l
    have N3c := blk_cell N3; have N3f := blk_free N3; have N3l := blk_lt N3; have S3c := blk_cell S3; have S3f := blk_free S3; have S3l := blk_lt S3; have H3c := blk_cell H3; have H3f := blk_free H3; have H3l := blk_lt H3; have O3c := blk_cell O3; have O3f := blk_free O3; have O3l := blk_lt O3
    simp -dsimp [go_sem, N3c, N3f, N3l, S3c, S3f, S3l, H3c, H3f, H3l, O3c, O3f, O3l]
    refine (dirs_Right (fun k => k = mb ∨ k = w.heap.size + 1 ∨ k = w.heap.size + 1 + 1) _ x.names V3 (((n2.keep k4).mo.all flat_entry (Y := fun _ => False)).sl (fun _ _ q => q) |> fun h => ((n2.keep k4).mo.all flat_entry (Y := fun k => k = mb ∨ k = w.heap.size + 1 ∨ k = w.heap.size + 1 + 1)).sl (fun g hg q => b2 g hg (.inl q)))).mono ?_; rintro _ V4 ⟨rfl, k5⟩; refine ret_intro ?_
    have R5 := k5.blk R4 (fun q => q)
    have T5 := k5.blk T4 (fun q => q)
    have N4 := k5.blk N3 (fun q => q)
    have S4 := k5.blk S3 (fun q => q)
    have O4 := k5.blk O3 (fun q => q)
    have H4 := k5.blk H3 (fun q => q)
    cases q2 : rightL x.names
    · clear N3c N3f N3l S3c S3f S3l H3c H3f H3l O3c O3f O3l
      have R5c := blk_cell R5; have R5f := blk_free R5; have R5l := blk_lt R5; have T5c := blk_cell T5; have T5f := blk_free T5; have T5l := blk_lt T5
      simp -dsimp [go_sem, R5c, R5f, R5l, T5c, T5f, T5l]
      obtain ⟨e1, e2⟩ := stop (by unfold nmOk; rw [q1, q2]; rfl) V4 (Keep.any k5) R5 T5 _ rfl
      exact ⟨⟨rfl, e1⟩, e2⟩
    clear N3c N3f N3l S3c S3f S3l H3c H3f H3l O3c O3f O3l
    have N4c := blk_cell N4; have N4f := blk_free N4; have N4l := blk_lt N4; have S4c := blk_cell S4; have S4f := blk_free S4; have S4l := blk_lt S4; have H4c := blk_cell H4; have H4f := blk_free H4; have H4l := blk_lt H4; have O4c := blk_cell O4; have O4f := blk_free O4; have O4l := blk_lt O4
    by_cases q3 : s.last < x.ino
    · have R5c := blk_cell R5; have R5f := blk_free R5; have R5l := blk_lt R5; have T5c := blk_cell T5; have T5f := blk_free T5; have T5l := blk_lt T5
      simp -dsimp [go_sem, N4c, N4f, N4l, S4c, S4f, S4l, H4c, H4f, H4l, O4c, O4f, O4l, q3]
      simp -dsimp [go_sem, R5c, R5f, R5l, T5c, T5f, T5l]
      obtain ⟨e1, e2⟩ := stop (by unfold nmOk; rw [q1, q2, decide_eq_false (by omega)]; rfl) V4 (Keep.any k5) R5 T5 _ rfl
      exact ⟨⟨rfl, e1⟩, e2⟩
    simp -dsimp [go_sem, N4c, N4f, N4l, S4c, S4f, S4l, H4c, H4f, H4l, O4c, O4f, O4l, q3]
    clear N4c N4f N4l S4c S4f S4l H4c H4f H4l O4c O4f O4l
    have k24 := Keep.trans k4 k5
    have kw4 := Keep.trans kw k24
    have c4 := c2.keep k24
    have l24 := k24.size
    have lw4 := kw4.size
    refine loop_intro (σ := Nat) (fun j => [.int .i64 j]) (fun j w' => j ≤ x.names.length ∧ Step (fun k => k = mb) V4 w' ∧ MapC w' mb (fun q => timesL (s.L.take i) q + cntE (x.names.take j) q) ∧ entsOk s x j = true) (fun j => x.names.length - j) 0 (by simp -dsimp [go_sem]; rfl) (by simp -dsimp [go_sem]) ⟨Nat.zero_le _, Step.refl _ _, by rw [show (fun q => timesL (s.L.take i) q + cntE (x.names.take 0) q) = timesL (s.L.take i) from by funext q; simp [cntE]]; exact c4, by simp [entsOk]⟩ ?_
    rintro j w5 ⟨hj, s5, c5, he5⟩
    simp -dsimp [go_sem]
    by_cases y1 : j < x.names.length
    rotate_left
    · obtain rfl : j = x.names.length := by omega
      simp -dsimp [go_sem, Nat.lt_irrefl]
      have hR5 := s5.blk R5 (by omega)
      have hT5 := s5.blk T5 (by omega)
      have hok5 : nmOk s x = true := by
        unfold entsOk at he5
        rw [List.take_length] at he5
        unfold nmOk
        rw [q1, q2, he5, decide_eq_true (by omega)]
        rfl
      refine ⟨_, ⟨rfl, ((s02.then k24).trans s5 (fun j _ q => .inl q)), ?_, hR5, hT5, by unfold takeOk at ha ⊢; rw [List.take_add_one, hx, List.all_append, ha]; simp [hok5]⟩, ((Keep.any k24).trans s5 (fun j _ q => .inl (.inl q))), fun j q => .inl q⟩
      rw [show timesL (s.L.take (i + 1)) = fun q => timesL (s.L.take i) q + cntE (x.names.take x.names.length) q from by funext q; rw [times_take hx, List.take_length]]
      exact c5
    have hyy : x.names[j]? = some x.names[j] := List.getElem?_eq_getElem _
    generalize x.names[j] = y at hyy
    have hym : y ∈ x.names := List.mem_of_getElem? hyy
    have kw5 : Keep w w5 := Step.keep kw4 s5 (fun j q => by omega)
    have hm5 : Sl rEntry (fun k => k = mb ∨ k = w.heap.size + 1 ∨ k = w.heap.size + 1 + 1) w5 (.slice ma x.names.length mc) x.names := ((((n2.keep k24).mo.all flat_entry (Y := fun k => k = mb ∨ k = w.heap.size + 1 ∨ k = w.heap.size + 1 + 1)).sl (fun g hg q => b2 g hg (.inl q)))).step s5 (fun _ q => .inl q)
    obtain ⟨b6, off6, c6', e6, hb6, -, hy64, hc6, hc7⟩ := hm5.entry hyy
    cases e6
    have y2 : (j : Int) < x.names.length := by omega
    have S5 := s5.blk S4 (by omega)
    have O5 := s5.blk O4 (by omega)
    simp -dsimp [go_sem, y1, y2, hb6, hc6, hc7]
    generalize hW : w5.alloc _ = w6
    obtain ⟨Y6, k6, z6⟩ := alloc1 hW
    clear hW
    have S6 := k6.blk S5 (fun q => q)
    have Y6c := blk_cell Y6; have Y6f := blk_free Y6; have Y6l := blk_lt Y6; have S6c := blk_cell S6; have S6f := blk_free S6; have S6l := blk_lt S6
    try simp -dsimp [go_sem, Y6c, Y6f, Y6l, S6c, S6f, S6l]
    refine (state_Get X b m s hI y.ino hsz w6 (h.keep (Keep.trans kw5 k6))).mono ?_; rintro _ w7 ⟨pp7, pq7, rfl, n7, k7⟩; refine ret_intro ?_
    have hR5 := s5.blk R5 (by omega)
    have hT5 := s5.blk T5 (by omega)
    have s35 : Step (fun k => k = mb) V3 w5 := (Keep.any k5).trans s5 (fun j _ q => q)
    cases hgk : getL s.L y.ino with
    | none =>
      rw [hgk] at n7
      have hbad : nmOk s x = false := nm_bad hym (by unfold entOk; rw [hgk])
      simp only [Option.getD_none, Option.isSome_none] at n7 ⊢
      obtain ⟨pa7, pc7, ma7, mc7, rfl, rfl, -⟩ := n7.slices
      unfold Node.enc
      simp -dsimp [go_sem]
      generalize hW : w7.alloc _ = w8
      obtain ⟨N8, k8, z8⟩ := alloc1 hW
      clear hW
      have k58 := Keep.trans k6 (Keep.trans k7 k8)
      have R8 := k58.blk hR5 (fun q => q)
      have T8 := k58.blk hT5 (fun q => q)
      clear Y6c Y6f Y6l S6c S6f S6l
      have R8c := blk_cell R8; have R8f := blk_free R8; have R8l := blk_lt R8; have T8c := blk_cell T8; have T8f := blk_free T8; have T8l := blk_lt T8
      simp -dsimp [go_sem, R8c, R8f, R8l, T8c, T8f, T8l]
      obtain ⟨e1, e2⟩ := stop hbad w8 (s35.then k58) R8 T8 _ rfl
      exact ⟨⟨rfl, e1⟩, e2⟩
    | some kn =>
      rw [hgk] at n7
      simp only [Option.getD_some, Option.isSome_some] at n7 ⊢
      obtain ⟨pa7, pc7, ma7, mc7, rfl, rfl, -⟩ := n7.slices
      unfold Node.enc
      simp -dsimp [go_sem]
      generalize hW : w7.alloc _ = w8
      obtain ⟨N8, k8, z8⟩ := alloc1 hW
      clear hW
      have k58 := Keep.trans k6 (Keep.trans k7 k8)
      have Y8 := (Keep.trans k7 k8).blk Y6 (fun q => q)
      have O8 := k58.blk O5 (fun q => q)
      have c8 := c5.keep k58
      have hcb : 0 ≤ timesL (s.L.take i) y.ino + cntE (x.names.take j) y.ino ∧ timesL (s.L.take i) y.ino + cntE (x.names.take j) y.ino ≤ 2 ^ 40 := by
        have hce : ∀ (l : List Entry) (q : Int), cntE l q ≤ l.length := fun l q => by unfold cntE; have := List.countP_le_length (p := fun x : Entry => decide (x.ino = q)) (l := l); omega
        have h1 := sumF_le (f := fun n => cntE n.names y.ino) (C := 2 ^ 16) (L := s.L.take i) (fun n hn => ⟨cntE_nn _ _, by have := hce n.names y.ino; have := (hg.sz n (List.mem_of_mem_take hn)).2; omega⟩)
        have h2 := hce (x.names.take j) y.ino
        have h3 := cntE_nn (x.names.take j) y.ino
        have h4 := (hg.sz x hxm).2
        have h5 := hg.len
        have h6 : (s.L.take i).length ≤ s.L.length := List.length_take_le' i s.L
        have h7 : (x.names.take j).length ≤ x.names.length := List.length_take_le' j x.names
        unfold timesL
        omega
      have ecb : IntKind.i64.wrap (timesL (s.L.take i) y.ino + cntE (x.names.take j) y.ino + 1) = timesL (s.L.take i) y.ino + cntE (x.names.take j) y.ino + 1 := IntWalk.i64_in _ (by omega)
      clear Y6c Y6f Y6l S6c S6f S6l
      have Y8c := blk_cell Y8; have Y8f := blk_free Y8; have Y8l := blk_lt Y8; have O8c := blk_cell O8; have O8f := blk_free O8; have O8l := blk_lt O8; have N8c := blk_cell N8; have N8f := blk_free N8; have N8l := blk_lt N8
      have hxl := (hg.sz x hxm).2
      have fin : ∀ V8, Step (fun k => k = mb) w5 V8 → MapC V8 mb (fun q => if q = y.ino then timesL (s.L.take i) y.ino + cntE (x.names.take j) y.ino + 1 else timesL (s.L.take i) q + cntE (x.names.take j) q) → Step (fun k => k = mb) V4 V8 ∧ MapC V8 mb (fun q => timesL (s.L.take i) q + cntE (x.names.take (j + 1)) q) := fun V8 a8 c8 => by
        refine ⟨s5.trans a8 (fun _ _ q => q), ?_⟩
        rw [show (fun q => timesL (s.L.take i) q + cntE (x.names.take (j + 1)) q) = fun q => if q = y.ino then timesL (s.L.take i) y.ino + cntE (x.names.take j) y.ino + 1 else timesL (s.L.take i) q + cntE (x.names.take j) q from by
          funext q
          rw [cntE_take hyy]
          by_cases g : q = y.ino
          · rw [if_pos g, if_pos g.symm, g]; omega
          · rw [if_neg g, if_neg (fun z => g z.symm)]; omega]
        exact c8

      have hnext : entOk s x y = true → entsOk s x (j + 1) = true := fun q => by
        unfold entsOk at he5 ⊢
        rw [List.take_add_one, hyy, List.all_append, he5]
        simp [q]
      by_cases g : kn.kind = 2
      rotate_left
      · simp -dsimp [go_sem, Y8c, Y8f, Y8l, O8c, O8f, O8l, N8c, N8f, N8l, g]
        have hlk := c8.look y.ino
        rw [hmb] at hlk
        refine look_intro hlk ?_
        simp -dsimp [go_sem, ecb]
        obtain ⟨w9, hu9, c9, s9⟩ := c8.upd y.ino (timesL (s.L.take i) y.ino + cntE (x.names.take j) y.ino + 1)
        rw [hmb] at hu9
        refine upd_intro hu9 ?_
        simp -dsimp [go_sem]
        try simp -dsimp (disch := omega) only [IntWalk.i64_in, IntWalk.u64_in, IntWalk.u8_in]
        obtain ⟨f1, f2⟩ := fin w9 ((Keep.any k58).trans s9 (fun _ _ q => q)) c9
        exact back_intro (j + 1) (by simp -dsimp [go_sem]) (by simp -dsimp [go_sem]) ⟨by omega, f1, f2, hnext (by unfold entOk; rw [hgk]; simp [g])⟩ (by omega)
      have d2 : decide (kn.kind = 2) = true := decide_eq_true g
      by_cases u1 : kn.up = x.ino
      rotate_left
      · have hbad : nmOk s x = false := nm_bad hym (by unfold entOk; rw [hgk]; simp [g, u1])
        have R8 := k58.blk hR5 (fun q => q)
        have T8 := k58.blk hT5 (fun q => q)
        have R8c := blk_cell R8; have R8f := blk_free R8; have R8l := blk_lt R8; have T8c := blk_cell T8; have T8f := blk_free T8; have T8l := blk_lt T8
        simp -dsimp [go_sem, Y8c, Y8f, Y8l, O8c, O8f, O8l, N8c, N8f, N8l, d2, u1]
        simp -dsimp [go_sem, R8c, R8f, R8l, T8c, T8f, T8l]
        obtain ⟨e1, e2⟩ := stop hbad w8 (s35.then k58) R8 T8 _ rfl
        exact ⟨⟨rfl, e1⟩, e2⟩
      by_cases u3 : y.ino = 1
      · have hbad : nmOk s x = false := nm_bad hym (by unfold entOk; rw [hgk]; simp [g, u1, u3])
        have R8 := k58.blk hR5 (fun q => q)
        have T8 := k58.blk hT5 (fun q => q)
        have R8c := blk_cell R8; have R8f := blk_free R8; have R8l := blk_lt R8; have T8c := blk_cell T8; have T8f := blk_free T8; have T8l := blk_lt T8
        simp -dsimp [go_sem, Y8c, Y8f, Y8l, O8c, O8f, O8l, N8c, N8f, N8l, d2, u1, u3]
        simp -dsimp [go_sem, R8c, R8f, R8l, T8c, T8f, T8l]
        obtain ⟨e1, e2⟩ := stop hbad w8 (s35.then k58) R8 T8 _ rfl
        exact ⟨⟨rfl, e1⟩, e2⟩
      simp -dsimp [go_sem, Y8c, Y8f, Y8l, O8c, O8f, O8l, N8c, N8f, N8l, d2, u1, u3]
      have hlk := c8.look y.ino
      rw [hmb] at hlk
      refine look_intro hlk ?_
      simp -dsimp [go_sem, ecb]
      obtain ⟨w9, hu9, c9, s9⟩ := c8.upd y.ino (timesL (s.L.take i) y.ino + cntE (x.names.take j) y.ino + 1)
      rw [hmb] at hu9
      refine upd_intro hu9 ?_
      simp -dsimp [go_sem]
      try simp -dsimp (disch := omega) only [IntWalk.i64_in, IntWalk.u64_in, IntWalk.u8_in]
      obtain ⟨f1, f2⟩ := fin w9 ((Keep.any k58).trans s9 (fun _ _ q => q)) c9
      exact back_intro (j + 1) (by simp -dsimp [go_sem]) (by simp -dsimp [go_sem]) ⟨by omega, f1, f2, hnext (by unfold entOk; rw [hgk]; simp [u1, u3])⟩ (by omega)
  · rintro A V ⟨rfl, hs, hc, hR, hT, ha⟩ hd
    have hall : allOk s = true := by unfold takeOk at ha; rw [List.take_length] at ha; exact ha
    rw [List.take_length] at hc
    have kV : Keep w V := Step.keep k02 hs (fun j q => by omega)
    have O2 := hs.blk O0 (by omega)
    have R2 := hR
    have T2 := hT
    have O2c := blk_cell O2; have O2f := blk_free O2; have O2l := blk_lt O2; have R2c := blk_cell R2; have R2f := blk_free R2; have R2l := blk_lt R2; have T2c := blk_cell T2; have T2f := blk_free T2; have T2l := blk_lt T2
    simp -dsimp [go_sem, O2c, O2f, O2l, R2c, R2f, R2l, T2c, T2f, T2l]
    refine end_intro (by first | exact hd | exact blk_far (blk_far hd (by simp; omega) _) (by simp; omega) _) ?_
    rintro V7 s7
    have lV := hs.size
    have R7 := s7.blk (blk_far (blk_set R2 0 (.map (some (w.heap.size + 1 + 1 + 1)))) (p := ⟨w.heap.size + 1 + 1, 0, none⟩) (by simp) (.bool true)) (by omega)
    have T7 := s7.blk (blk_set (blk_far T2 (p := ⟨w.heap.size + 1, 0, none⟩) (by simp) (.map (some (w.heap.size + 1 + 1 + 1)))) 0 (.bool true)) (by omega)
    clear R2c R2f R2l T2c T2f T2l
    have R7c := blk_cell R7; have R7f := blk_free R7; have R7l := blk_lt R7; have T7c := blk_cell T7; have T7f := blk_free T7; have T7l := blk_lt T7
    simp -dsimp [go_sem, R7c, R7f, R7l, T7c, T7f, T7l]
    have sS : Step (fun k => k = w.heap.size + 1 ∨ k = w.heap.size + 1 + 1) V ((V.setCell ⟨w.heap.size + 1, 0, none⟩ (.map (some (w.heap.size + 1 + 1 + 1)))).setCell ⟨w.heap.size + 1 + 1, 0, none⟩ (.bool true)) := ((Step.refl (fun k => k = w.heap.size + 1 ∨ k = w.heap.size + 1 + 1) V).set (.inl (.inl rfl)) _).set (.inl (.inr rfl)) _
    refine ⟨hall, by rw [← hmb]; exact (hc.step sS (by omega)).step s7 (by omega), Step.keep (Step.keep kV sS (fun j q => by omega)) s7 (fun j q => by omega), by omega⟩
  · rintro e V hj ⟨rfl, hbad, hs, hR, hT⟩ hd
    have kV : Keep w V := Step.keep k02 hs (fun j q => by omega)
    simp -dsimp [go_sem]
    refine end_intro hd ?_
    rintro V7 s7
    have R7 := s7.blk hR (by have := blk_lt R0; omega)
    have T7 := s7.blk hT (by have := blk_lt T0; omega)
    have R7c := blk_cell R7; have R7f := blk_free R7; have R7l := blk_lt R7; have T7c := blk_cell T7; have T7f := blk_free T7; have T7l := blk_lt T7
    simp -dsimp [go_sem, R7c, R7f, R7l, T7c, T7f, T7l]
    exact ⟨hbad, Step.keep kV s7 (fun j q => by omega)⟩
end Go.Proofs.YtdfjfagljngciaaGreat
