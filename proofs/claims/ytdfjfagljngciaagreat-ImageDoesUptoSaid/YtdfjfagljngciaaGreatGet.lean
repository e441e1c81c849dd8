/- Package image: a node that is read. -/
import Derived.Test.YtdfjfagljngciaaGreatRdr
set_option linter.all false
set_option maxRecDepth 100000
set_option maxHeartbeats 4000000
namespace Go.Proofs.YtdfjfagljngciaaGreat
open Go.RowKit Rx

abbrev Rd := List UInt64 × Bool
def numP (s : Rd) : Int × Rd := ((numR s.1 s.2).1, (numR s.1 s.2).2)
def textP (s : Rd) : List UInt8 × Rd := ((textR 24 s.1 s.2).1, (textR 24 s.1 s.2).2)
/-- So many numbers. -/
def seqR : Nat → Rd → List Int × Rd
  | 0, s => ([], s)
  | m + 1, s => ((seqR m s).1 ++ [(numP (seqR m s).2).1], (numP (seqR m s).2).2)
theorem seqR_len : ∀ (m : Nat) (s : Rd), (seqR m s).1.length = m
  | 0, s => rfl
  | m + 1, s => by rw [seqR, List.length_append, seqR_len m s]; rfl
def pagesR : Nat → Rd → List Int × Rd
  | 0, s => ([], s)
  | m + 1, s => if s.2 = true then ([], s) else ((numP s).1 :: (pagesR m (numP s).2).1, (pagesR m (numP s).2).2)
def namesR : Nat → Rd → List Entry × Rd
  | 0, s => ([], s)
  | m + 1, s => if s.2 = true then ([], s) else (⟨⟨(textP s).1.toArray⟩, (numP (textP s).2).1⟩ :: (namesR m (numP (textP s).2).2).1, (namesR m (numP (textP s).2).2).2)
def headV (s : Rd) (i : Nat) : Int := (seqR 7 s).1.getD i 0
def getR (s : Rd) : Node × Rd :=
  let h := seqR 7 s
  let p := pagesR (min (headV s 5) 64).toNat h.2
  let q := namesR (min (headV s 6) 65536).toNat p.2
  (⟨headV s 0, headV s 1, headV s 2, headV s 3, headV s 4, p.1, q.1⟩, q.2)
abbrev RdP (w : World) (b : Nat) (s : Rd) : Prop := RdAt w b s.1 s.2
theorem reader_NumP (b : Nat) (s : Rd) (w : World) (h : RdP w b s) :
    Calls Tryz.prog 58 #[.pointer (some ⟨b, 0, none⟩)] w fun r w' => r = .returned (.int .i64 (numP s).1) ∧ RdP w' b (numP s).2 ∧ Step (fun k => k = b) w w' := reader_Num b s.1 s.2 w h
theorem index_ptr {t e : TypeId} {len : Nat} (hu : Tryz.prog.underlying t = some (.array len e)) {E : TypeId} (he : Tryz.prog.underlying e = some (.pointer E)) (hs : (Tryz.prog.info? e).map (·.size) = some 1) (cs : Array Value) (i : Nat) (hi : i < len) (x : Value) (hx : cs[i]? = some x) (w : World) : (Instr.index t (.agg cs) (.int .i64 i)).run Tryz.prog w = .ok x w := by
  obtain ⟨inf, hi1, hs1⟩ : ∃ inf, Tryz.prog.info? e = some inf ∧ inf.size = 1 := by
    cases hq : Tryz.prog.info? e with
    | none => rw [hq] at hs; cases hs
    | some inf => rw [hq] at hs; exact ⟨inf, rfl, by simpa using hs⟩
  have hsz : (sizeOf e).run Tryz.prog w = .ok 1 w := by simp [sizeOf, typeInfo, hi1, hs1]
  have ha : (isAgg e).run Tryz.prog w = .ok false w := by simp [isAgg, run_underlying he]
  simp [Instr.index, asIntOf, Sem.run_bind, run_underlying hu, hsz, part, ha, hi, hx]
def cellsN (s : Rd) (i : Nat) : Array Value := ((seqR i s).1.map (Value.int .i64) ++ (List.replicate (5 - i) (Value.int .i64 0) ++ [Value.slice none 0 0, Value.slice none 0 0])).toArray
theorem cellsN_at {s : Rd} {i : Nat} (hi : i < 5) : (cellsN s i)[i]? = some (.int .i64 0) := by
  unfold cellsN
  rw [List.getElem?_toArray, List.getElem?_append_right (by rw [List.length_map, seqR_len]; omega), List.length_map, seqR_len, Nat.sub_self, List.getElem?_append_left (by rw [List.length_replicate]; omega), List.getElem?_replicate, if_pos (by omega)]
theorem cellsN_set {s : Rd} {i : Nat} (hi : i < 5) : (cellsN s i).setIfInBounds i (.int .i64 (numP (seqR i s).2).1) = cellsN s (i + 1) := by
  unfold cellsN
  rw [List.setIfInBounds_toArray, List.set_append_right _ _ (by rw [List.length_map, seqR_len]; omega), List.length_map, seqR_len, Nat.sub_self, show 5 - i = (5 - (i + 1)) + 1 from by omega, List.replicate_succ, List.cons_append, List.set_cons_zero]
  rw [seqR, List.map_append, List.append_assoc]
  rfl
theorem cells5 (s : Rd) : cellsN s 5 = #[.int .i64 (headV s 0), .int .i64 (headV s 1), .int .i64 (headV s 2), .int .i64 (headV s 3), .int .i64 (headV s 4), .slice none 0 0, .slice none 0 0] := by
  unfold cellsN headV
  simp [seqR]
theorem head5 (s : Rd) : (numP (seqR 5 s).2).1 = headV s 5 := by
  unfold headV
  simp [seqR]
theorem head6 (s : Rd) : (numP (numP (seqR 5 s).2).2).1 = headV s 6 := by
  unfold headV
  simp [seqR]
theorem seq_nn : ∀ (m : Nat) (s : Rd), ∀ x ∈ (seqR m s).1, 0 ≤ x ∧ x ≤ 4611686018427387904
  | 0, s, x, h => by simp [seqR] at h
  | m + 1, s, x, h => by
    rw [seqR] at h
    rcases List.mem_append.1 h with q | q
    · exact seq_nn m s x q
    · simp at q; subst q; exact numR_nn _ _
theorem head_nn (s : Rd) (i : Nat) : 0 ≤ headV s i ∧ headV s i ≤ 4611686018427387904 := by
  unfold headV
  by_cases hi : i < (seqR 7 s).1.length
  · rw [List.getD_eq_getElem?_getD, List.getElem?_eq_getElem hi]
    exact seq_nn 7 s _ (List.getElem_mem hi)
  · rw [List.getD_eq_getElem?_getD, List.getElem?_eq_none (by omega)]; simp
@[go_sem] def hGet : Rx.Hints := { loops := [(4, ⟨[21], [0, 2, 3, 4, 20]⟩), (10, ⟨[9], [0, 2, 3, 4, 7, 8]⟩), (14, ⟨[10], [0, 2, 3, 4, 8]⟩)], blanks := [(12, .take 0 (.take 1 (.take 2 (.act 3 (.act 4 (.fin 5 (.fin 6 (.fin 7 .done)))))))), (17, .take 0 (.take 1 (.take 2 (.take 3 (.act 4 (.take 5 (.act 6 (.fin 7 (.fin 8 (.fin 9 .done))))))))))], joins := [(9, ⟨[], [0, 2, 3, 4, 8]⟩), (13, ⟨[], [2, 4]⟩)] }
def G9 (s : Rd) (W : World) (b nb M : Nat) (w' : World) : Prop := ∃ A sk v, pagesR M (seqR 7 s).2 = (A, sk) ∧ RdP w' b sk ∧ w'.heap[nb]? = some (.cells #[.int .i64 (headV s 0), .int .i64 (headV s 1), .int .i64 (headV s 2), .int .i64 (headV s 3), .int .i64 (headV s 4), v, .slice none 0 0] 42 (0, 0)) ∧ Ow rInt 3 (fun _ => True) w' v A ∧ (∀ g, ownB v = some g → nb < g) ∧ Step (fun k => k = b ∨ k = nb) W w'
def G9k (s : Rd) (W : World) (b nb M k : Nat) (w' : World) : Prop := ∃ A sk v, A.length = k ∧ pagesR M (seqR 7 s).2 = (A ++ (pagesR (M - k) sk).1, (pagesR (M - k) sk).2) ∧ RdP w' b sk ∧ w'.heap[nb]? = some (.cells #[.int .i64 (headV s 0), .int .i64 (headV s 1), .int .i64 (headV s 2), .int .i64 (headV s 3), .int .i64 (headV s 4), v, .slice none 0 0] 42 (0, 0)) ∧ Ow rInt 3 (fun _ => True) w' v A ∧ (∀ g, ownB v = some g → nb < g) ∧ Step (fun k => k = b ∨ k = nb) W w'
def G13 (s : Rd) (W : World) (b nb M : Nat) (s9 : Rd) (A : List Int) (w' : World) : Prop := ∃ B sk v u, namesR M s9 = (B, sk) ∧ RdP w' b sk ∧ w'.heap[nb]? = some (.cells #[.int .i64 (headV s 0), .int .i64 (headV s 1), .int .i64 (headV s 2), .int .i64 (headV s 3), .int .i64 (headV s 4), v, u] 42 (0, 0)) ∧ Ow rInt 3 (fun _ => True) w' v A ∧ Ow rEntry 110 (fun _ => True) w' u B ∧ (∀ x ∈ B, x.ok) ∧ (∀ g, ownB v = some g → nb < g) ∧ (∀ g, ownB u = some g → nb < g) ∧ (∀ g, ownB v = some g → ownB u = some g → False) ∧ Step (fun k => k = b ∨ k = nb) W w'
def G13k (s : Rd) (W : World) (b nb M : Nat) (s9 : Rd) (A : List Int) (k : Nat) (w' : World) : Prop := ∃ B sk v u, B.length = k ∧ namesR M s9 = (B ++ (namesR (M - k) sk).1, (namesR (M - k) sk).2) ∧ RdP w' b sk ∧ w'.heap[nb]? = some (.cells #[.int .i64 (headV s 0), .int .i64 (headV s 1), .int .i64 (headV s 2), .int .i64 (headV s 3), .int .i64 (headV s 4), v, u] 42 (0, 0)) ∧ Ow rInt 3 (fun _ => True) w' v A ∧ Ow rEntry 110 (fun _ => True) w' u B ∧ (∀ x ∈ B, x.ok) ∧ (∀ g, ownB v = some g → nb < g) ∧ (∀ g, ownB u = some g → nb < g) ∧ (∀ g, ownB v = some g → ownB u = some g → False) ∧ Step (fun k => k = b ∨ k = nb) W w'
theorem app_ent {W : World} {v : Value} {l : List Entry} {x : Entry} {g : Nat} (hx : x.ok) (hb : W.heap[g]? = some (.cells x.enc.toArray 110 (0, 0))) (o1 : Ow rEntry 110 (fun _ => True) W v l) (hl : l.length ≤ 2 ^ 40)
    {k : Value → World → Prop} {tk : Tag k} (hk : ∀ v' w', Ow rEntry 110 (fun _ => True) w' v' (l ++ [x]) → Step (fun g => ownB v = some g) W w' → (∀ g, ownB v' = some g → (ownB v = some g ∨ W.heap.size ≤ g) ∧ g < w'.heap.size) → k v' w') :
    appF Tryz.prog #[40, 40] 40 (Shut k tk) v (.slice (some ⟨g, 0, none⟩) 1 1) W := by
  refine app_flat 24 flat_entry Tryz.underlying40 (by kernel_rfl) one_entry o1 (Sl.of_blk (X := fun _ => False) (l := [x]) hb id (one_entry_cs x hx _ _) rfl (by unfold maxLen; omega)) (by rw [List.length_singleton]; unfold maxLen; omega) (by rw [List.length_singleton]; omega) ?_
  intro v' w' h1 k2 b2
  exact hk v' w' h1 k2 (fun g hg => ⟨b2 g hg, h1.lt hg⟩)
theorem reader_TextP (b : Nat) (s : Rd) (w : World) (h : RdP w b s) :
    Calls Tryz.prog 100 #[.pointer (some ⟨b, 0, none⟩), .int .i64 24] w fun r w' => r = .returned (.string ⟨(textP s).1.toArray⟩) ∧ RdP w' b (textP s).2 ∧ Step (fun k => k = b) w w' := reader_Text b 24 (by omega) s.1 s.2 w h
theorem image_get (b : Nat) (s : Rd) (w : World) (h : RdP w b s) :
    Calls Tryz.prog 60 #[.pointer (some ⟨b, 0, none⟩)] w fun r w' => ∃ p q, r = .returned (.agg ((getR s).1.enc p q).toArray) ∧ NNew w.heap.size w' (getR s).1 p q ∧ (getR s).1.ok ∧ RdP w' b (getR s).2 ∧ Step (fun k => k = b) w w' := by
  refine calls_rx hGet Tryz.func60 rfl Tryz.mixed (by kernel_rfl) Tryz.results60 ?_
  simp -dsimp [go_sem]
  generalize hW : (w.alloc _).alloc _ = W
  obtain ⟨R0, N0, k0, z0⟩ := alloc2 hW
  clear hW
  have hbl := h.lt
  obtain ⟨nb, hnb⟩ : ∃ nb, nb = w.heap.size + 1 := ⟨_, rfl⟩
  rw [← hnb] at N0 ⊢
  refine loop_intro (σ := Nat) (fun i => [.int .i64 i]) (fun i w' => i ≤ 5 ∧ RdP w' b (seqR i s).2 ∧ w'.heap[nb]? = some (.cells (cellsN s i) 42 (0, 0)) ∧ Step (fun k => k = b ∨ k = nb) W w') (fun i => 5 - i) 0 (by simp -dsimp [go_sem]; rfl) (by simp -dsimp [go_sem]) ⟨by omega, h.keep k0, by rw [N0]; rfl, Step.refl _ _⟩ ?_
  rintro i w2 ⟨hi, h2, N2, s2⟩
  simp -dsimp [go_sem]
  by_cases g1 : i < 5
  · have g1' : (i : Int) < 5 := by omega
    have hcs : (#[Value.pointer (some ⟨nb, 0, none⟩), Value.pointer (some ⟨nb, 1, none⟩), Value.pointer (some ⟨nb, 2, none⟩), Value.pointer (some ⟨nb, 3, none⟩), Value.pointer (some ⟨nb, 4, none⟩)] : Array Value)[i]? = some (.pointer (some ⟨nb, i, none⟩)) := by
      obtain rfl | rfl | rfl | rfl | rfl : i = 0 ∨ i = 1 ∨ i = 2 ∨ i = 3 ∨ i = 4 := by omega
      all_goals rfl
    have hix := fun w => index_ptr (t := 140) Tryz.underlying140 Tryz.underlying139 (by kernel_rfl) _ i g1 _ hcs w
    simp -dsimp [go_sem, g1', hix]
    refine (reader_NumP b _ w2 h2).mono ?_
    rintro _ w3 ⟨rfl, h3, s3⟩
    refine ret_intro ?_
    have N3 := s3.blk N2 (fun q => by omega)
    have hc3 := blk_cell N3 i
    rw [cellsN_at g1] at hc3
    have hf3 := blk_free N3 i
    have hl3 := blk_lt N3
    simp -dsimp [go_sem, hc3, hf3, hl3]
    try simp -dsimp (disch := omega) only [IntWalk.i64_in, IntWalk.u64_in, IntWalk.u8_in]
    have N4 : (w3.setCell ⟨nb, i, none⟩ (.int .i64 (numP (seqR i s).2).1)).heap[nb]? = some (.cells (cellsN s (i + 1)) 42 (0, 0)) := blk_eq (blk_set N3 i _) (by rw [cellsN_set g1])
    have s4 : Step (fun k => k = nb) w3 (w3.setCell ⟨nb, i, none⟩ (.int .i64 (numP (seqR i s).2).1)) := (Step.refl (fun k => k = nb) w3).set (.inl rfl) _
    have h4 : RdP (w3.setCell ⟨nb, i, none⟩ (.int .i64 (numP (seqR i s).2).1)) b (seqR (i + 1) s).2 := h3.step s4 (fun k q => by omega)
    exact back_intro (i + 1) (by simp -dsimp [go_sem]) (by simp -dsimp [go_sem]) ⟨by omega, h4, N4, (s2.trans s3 (fun j _ q => .inl q)).trans s4 (fun j _ q => .inr q)⟩ (by omega)
  obtain rfl : i = 5 := by omega
  have R2 := s2.blk R0 (fun q => by omega)
  have hc5 : cellsN s 5 = #[.int .i64 (headV s 0), .int .i64 (headV s 1), .int .i64 (headV s 2), .int .i64 (headV s 3), .int .i64 (headV s 4), .slice none 0 0, .slice none 0 0] := cells5 s
  rw [hc5] at N2
  simp -dsimp [go_sem]
  refine (reader_NumP b _ w2 h2).mono ?_
  rintro _ w3 ⟨rfl, h3, s3⟩
  refine ret_intro ?_
  simp -dsimp [go_sem]
  refine (reader_NumP b _ w3 h3).mono ?_
  rintro _ w4 ⟨rfl, h4, s4⟩
  refine ret_intro ?_
  have N4 := s4.blk (s3.blk N2 (fun q => by omega)) (fun q => by omega)
  have s04 : Step (fun k => k = b ∨ k = nb) W w4 := (s2.trans s3 (fun j _ q => .inl q)).trans s4 (fun j _ q => .inl q)
  have e5 : (numP (seqR 5 s).2).1 = headV s 5 := head5 s
  have e6 : (numP (numP (seqR 5 s).2).2).1 = headV s 6 := head6 s
  have e7 : (numP (numP (seqR 5 s).2).2).2 = (seqR 7 s).2 := rfl
  rw [e5]
  rw [e7] at h4
  rw [e6]
  have hP := head_nn s 5
  have hQ := head_nn s 6
  generalize hPP : headV s 5 = P at hP ⊢
  generalize hQQ : headV s 6 = Q at hQ ⊢
  clear h2 h3 N2 s2 s3 s4
  have hlW := k0.size
  simp -dsimp [go_sem]
  obtain ⟨M, hM⟩ : ∃ M, M = (min P 64).toNat := ⟨_, rfl⟩
  refine join_intro (σ := Unit) (fun _ => []) (fun _ w' => G9 s W b nb M w') (by simp -dsimp [go_sem]; rfl) ?_ ?_
  · simp -dsimp [go_sem]
    refine loop_intro (σ := Nat) (fun k => [.int .i64 k]) (fun k w' => k ≤ M ∧ G9k s W b nb M k w') (fun k => M - k) 0 (by simp -dsimp [go_sem]; rfl) (by simp -dsimp [go_sem]) ⟨Nat.zero_le _, [], (seqR 7 s).2, .slice none 0 0, rfl, by simp, h4, N4, Ow.nil _ _ _ _, by simp [ownB], s04⟩ ?_
    clear h4 N4 s04
    rintro k w5 ⟨hk, A, sk, v, hAl, hpg, h5, N5, o5, b5, s5⟩
    obtain ⟨va, vc, rfl, -⟩ := o5.slice
    have out : (k = M ∨ sk.2 = true) → G9 s W b nb M w5 := fun q => by
      have hp0 : pagesR (M - k) sk = ([], sk) := by
        rcases q with q | q
        · rw [q, Nat.sub_self, pagesR]
        · cases hq : M - k with
          | zero => rw [pagesR]
          | succ j => rw [pagesR, if_pos q]
      rw [hp0, List.append_nil] at hpg
      exact ⟨A, sk, _, hpg, h5, N5, o5, b5, s5⟩
    rw [hAl] at N5 o5 b5
    simp -dsimp [go_sem]
    have hx1 : k < M ∨ (¬ k < M ∧ ((¬ (k : Int) < P) ∨ ((k : Int) < P ∧ ¬ (k : Int) < 64))) := by omega
    rcases hx1 with q1 | ⟨q1, q2⟩
    rotate_left
    · rcases q2 with q2 | ⟨q2, q3⟩
      · simp -dsimp [go_sem, q2]
        exact meet_intro () (by simp -dsimp [go_sem]) (by simp -dsimp [go_sem]) (out (.inl (by omega)))
      · simp -dsimp [go_sem, q2, q3]
        exact meet_intro () (by simp -dsimp [go_sem]) (by simp -dsimp [go_sem]) (out (.inl (by omega)))
    have q3 : (k : Int) < P := by omega
    have q4 : (k : Int) < 64 := by omega
    simp -dsimp [go_sem, q3, q4]
    refine (reader_Bad b _ _ w5 h5).mono ?_; rintro _ w6 ⟨rfl, rfl⟩; refine ret_intro ?_
    cases hbad : sk.2
    rotate_left
    · simp -dsimp [go_sem, q3, q4]
      exact meet_intro () (by simp -dsimp [go_sem]) (by simp -dsimp [go_sem]) (out (.inr hbad))
    simp -dsimp [go_sem, q3, q4]
    have hnbb : nb ≠ b := by omega
    refine blankF_intro (holed w5 b) (holed_agree (fun _ _ _ => rfl)) ?_
    have N6 := (holed_blk (w := w5) (b := b) hnbb).trans N5
    have N6c := blk_cell N6; have N6f := blk_free N6; have N6l := blk_lt N6
    simp -dsimp [go_sem, N6c, N6f, N6l]
    have kd := keep_drew w5
    refine (reader_NumP b sk w5.drew (h5.keep kd)).mono ?_
    rintro _ w6 ⟨rfl, h6, s6⟩
    refine ret_intro ?_
    have hx64 : I64 (numP sk).1 := by have := numR_nn sk.1 sk.2; exact ⟨by show _ ≤ (numR sk.1 sk.2).1; omega, by show (numR sk.1 sk.2).1 ≤ _; omega⟩
    have hpn : pagesR (M - k) sk = ((numP sk).1 :: (pagesR (M - (k + 1)) (numP sk).2).1, (pagesR (M - (k + 1)) (numP sk).2).2) := by
      rw [show M - k = (M - (k + 1)) + 1 from by omega, pagesR, if_neg (by rw [hbad]; decide)]
    rw [hpn] at hpg
    generalize numP sk = np at h6 hx64 hpg
    obtain ⟨x, sk2⟩ := np
    simp only at h6 hx64 hpg
    refine ⟨holed_agree (fun j hj hne => s6.block j hj (fun q => hne q)), ?_⟩
    have hnbl := blk_lt N5
    have b5' : ∀ g, ownB (.slice va k vc) = some g → nb < g := b5
    have o6 : Ow rInt 3 (fun _ => True) w6 (.slice va k vc) A := (o5.keep kd).flat flat_int s6 (fun g hg q => by have := b5' g hg; omega)
    have N7 := s6.blk (kd.blk N5 (fun q => q)) (fun q => by omega)
    clear N6c N6f N6l
    simp -dsimp [go_sem]
    generalize hW : w6.alloc _ = w7
    obtain ⟨X7, k7, z7⟩ := alloc1 hW
    clear hW
    refine ⟨holed_agree (fun j hj hne => (k7.block j (Nat.lt_of_lt_of_le hj s6.size) (fun q => q)).trans (s6.block j hj (fun q => hne q))), ?_⟩
    try simp -dsimp [go_sem]
    refine app_int hx64 X7 (o6.keep k7) (by omega) ?_
    intro v8 w8 o8 s8 b8
    have N8 := s8.blk (k7.blk N7 (fun q => q)) (fun q => by have := b5' _ q; omega)
    obtain ⟨wa, wc, rfl, -⟩ := o8.slice
    have N8c := blk_cell N8; have N8f := blk_free N8; have N8l := blk_lt N8
    simp -dsimp [go_sem, N8c, N8f, N8l]
    try simp -dsimp (disch := omega) only [IntWalk.i64_in, IntWalk.u64_in, IntWalk.u8_in]
    have hlen : (A ++ [x]).length = A.length + 1 := by simp
    rw [hlen] at o8 b8
    have N9 : (w8.setCell ⟨nb, 5, none⟩ (.slice wa (A.length + 1) wc)).heap[nb]? = some (.cells #[.int .i64 (headV s 0), .int .i64 (headV s 1), .int .i64 (headV s 2), .int .i64 (headV s 3), .int .i64 (headV s 4), .slice wa (A.length + 1) wc, .slice none 0 0] 42 (0, 0)) := blk_eq (blk_set N8 5 _) (by first | rfl | simp)
    have sW : Step (fun k => k = nb) w8 (w8.setCell ⟨nb, 5, none⟩ (.slice wa (A.length + 1) wc)) := (Step.refl (fun k => k = nb) w8).set (.inl rfl) _
    have l5 := s5.size
    have l6 := s6.size
    have l7 := k7.size
    have hd5 : w5.drew.heap.size = w5.heap.size := rfl
    have b8' : ∀ g, ownB (.slice wa (A.length + 1) wc) = some g → nb < g := fun g hg => by
      rcases (b8 g hg).1 with q | q
      · exact b5' g q
      · omega
    have s59 : Step (fun k => k = b ∨ k = nb) W (w8.setCell ⟨nb, 5, none⟩ (.slice wa (A.length + 1) wc)) := ((((s5.then kd).trans s6 (fun j _ q => .inl q)).then k7).trans s8 (fun j hj q => by have := b5' j q; omega)).trans sW (fun j _ q => .inr q)
    exact back_intro (k + 1) (by simp -dsimp [go_sem]) (by simp -dsimp [go_sem]) ⟨by omega, A ++ [x], sk2, _, by simp [hAl], by rw [hpg]; simp, ((h6.keep k7).step s8 (fun j q => by have := b5' j q; omega)).step sW (fun j q => by omega), N9, o8.flat flat_int sW (fun g hg q => by have := b8' g hg; omega), b8', s59⟩ (by omega)
  rintro _ w10 ⟨A, s9, v, hpg, h10, N10, o10, b10, s10⟩
  obtain ⟨M2, hM2⟩ : ∃ M2, M2 = (min Q 65536).toNat := ⟨_, rfl⟩
  simp -dsimp [go_sem]
  refine join_intro (σ := Unit) (fun _ => []) (fun _ w' => G13 s W b nb M2 s9 A w') (by simp -dsimp [go_sem]; rfl) ?_ ?_
  · simp -dsimp [go_sem]
    refine loop_intro (σ := Nat) (fun k => [.int .i64 k]) (fun k w' => k ≤ M2 ∧ G13k s W b nb M2 s9 A k w') (fun k => M2 - k) 0 (by simp -dsimp [go_sem]; rfl) (by simp -dsimp [go_sem]) ⟨Nat.zero_le _, [], s9, v, .slice none 0 0, rfl, by simp, h10, N10, o10, Ow.nil _ _ _ _, by simp, b10, by simp [ownB], by simp [ownB], s10⟩ ?_
    clear h10 N10 o10 b10 s10
    rintro k w5 ⟨hk, B, sk, v, u, hBl, hnm, h5, N5, o5, e5, hB, b5, c5, d5, s5⟩
    obtain ⟨va, vc, rfl, -⟩ := o5.slice
    obtain ⟨ua, uc, rfl, -⟩ := e5.slice
    have out : (k = M2 ∨ sk.2 = true) → G13 s W b nb M2 s9 A w5 := fun q => by
      have hp0 : namesR (M2 - k) sk = ([], sk) := by
        rcases q with q | q
        · rw [q, Nat.sub_self, namesR]
        · cases hq : M2 - k with
          | zero => rw [namesR]
          | succ j => rw [namesR, if_pos q]
      rw [hp0, List.append_nil] at hnm
      exact ⟨B, sk, _, _, hnm, h5, N5, o5, e5, hB, b5, c5, d5, s5⟩
    rw [hBl] at N5 e5 c5 d5
    simp -dsimp [go_sem]
    have hx1 : k < M2 ∨ (¬ k < M2 ∧ ((¬ (k : Int) < Q) ∨ ((k : Int) < Q ∧ ¬ (k : Int) < 65536))) := by omega
    rcases hx1 with q1 | ⟨q1, q2⟩
    rotate_left
    · rcases q2 with q2 | ⟨q2, q3⟩
      · simp -dsimp [go_sem, q2]
        exact meet_intro () (by simp -dsimp [go_sem]) (by simp -dsimp [go_sem]) (out (.inl (by omega)))
      · simp -dsimp [go_sem, q2, q3]
        exact meet_intro () (by simp -dsimp [go_sem]) (by simp -dsimp [go_sem]) (out (.inl (by omega)))
    have q3 : (k : Int) < Q := by omega
    have q4 : (k : Int) < 65536 := by omega
    simp -dsimp [go_sem, q3, q4]
    refine (reader_Bad b _ _ w5 h5).mono ?_; rintro _ w6 ⟨rfl, rfl⟩; refine ret_intro ?_
    cases hbad : sk.2
    rotate_left
    · simp -dsimp [go_sem, q3, q4]
      exact meet_intro () (by simp -dsimp [go_sem]) (by simp -dsimp [go_sem]) (out (.inr hbad))
    simp -dsimp [go_sem, q3, q4]
    have hnbb : nb ≠ b := by omega
    have hpn : namesR (M2 - k) sk = (⟨⟨(textP sk).1.toArray⟩, (numP (textP sk).2).1⟩ :: (namesR (M2 - (k + 1)) (numP (textP sk).2).2).1, (namesR (M2 - (k + 1)) (numP (textP sk).2).2).2) := by
      rw [show M2 - k = (M2 - (k + 1)) + 1 from by omega, namesR, if_neg (by rw [hbad]; decide)]
    rw [hpn] at hnm
    refine (reader_TextP b sk w5 h5).mono ?_
    rintro _ w6 ⟨rfl, h6, s6⟩
    refine ret_intro ?_
    generalize textP sk = tp at h6 hnm
    obtain ⟨tx, sk2⟩ := tp
    simp only at h6 hnm
    generalize (⟨tx.toArray⟩ : ByteArray) = T at hnm ⊢
    have b5' : ∀ g, ownB (.slice va A.length vc) = some g → nb < g := b5
    have c5' : ∀ g, ownB (.slice ua k uc) = some g → nb < g := c5
    have N6 := s6.blk N5 (fun q => by omega)
    have o6 : Ow rInt 3 (fun _ => True) w6 (.slice va A.length vc) A := o5.flat flat_int s6 (fun g hg q => by have := b5' g hg; omega)
    have e6 : Ow rEntry 110 (fun _ => True) w6 (.slice ua k uc) B := e5.flat flat_entry s6 (fun g hg q => by have := c5' g hg; omega)
    have s56 : Step (fun k => k = b ∨ k = nb) W w6 := s5.trans s6 (fun j _ q => .inl q)
    simp -dsimp [go_sem]
    refine blankF_intro (holed w6 b) (holed_agree (fun _ _ _ => rfl)) ?_
    have N7 := (holed_blk (w := w6) (b := b) hnbb).trans N6
    have N7c := blk_cell N7; have N7f := blk_free N7; have N7l := blk_lt N7
    simp -dsimp [go_sem, N7c, N7f, N7l]
    have kd := keep_drew w6
    refine (reader_NumP b sk2 w6.drew (h6.keep kd)).mono ?_
    rintro _ w7 ⟨rfl, h7, s7⟩
    refine ret_intro ?_
    have hx64 : I64 (numP sk2).1 := by have := numR_nn sk2.1 sk2.2; exact ⟨by show _ ≤ (numR sk2.1 sk2.2).1; omega, by show (numR sk2.1 sk2.2).1 ≤ _; omega⟩
    generalize numP sk2 = np at h7 hx64 hnm
    obtain ⟨x, sk3⟩ := np
    simp only at h7 hx64 hnm
    refine ⟨holed_agree (fun j hj hne => s7.block j hj (fun q => hne q)), ?_⟩
    have hnbl := blk_lt N6
    have o7 : Ow rInt 3 (fun _ => True) w7 (.slice va A.length vc) A := (o6.keep kd).flat flat_int s7 (fun g hg q => by have := b5' g hg; omega)
    have e7' : Ow rEntry 110 (fun _ => True) w7 (.slice ua k uc) B := (e6.keep kd).flat flat_entry s7 (fun g hg q => by have := c5' g hg; omega)
    have N8 := s7.blk (kd.blk N6 (fun q => q)) (fun q => by omega)
    clear N7c N7f N7l
    simp -dsimp [go_sem]
    generalize hW : w7.alloc _ = w8
    obtain ⟨X8, k8, z8⟩ := alloc1 hW
    clear hW
    refine ⟨holed_agree (fun j hj hne => (k8.block j (Nat.lt_of_lt_of_le hj s7.size) (fun q => q)).trans (s7.block j hj (fun q => hne q))), ?_⟩
    try simp -dsimp [go_sem]
    have hy : Entry.ok ⟨T, x⟩ := hx64
    refine app_ent (x := ⟨T, x⟩) hy X8 (e7'.keep k8) (by omega) ?_
    intro v9 w9 e9 s9' b9
    have N9 := s9'.blk (k8.blk N8 (fun q => q)) (fun q => by have := c5' _ q; omega)
    obtain ⟨wa, wc, rfl, -⟩ := e9.slice
    have N9c := blk_cell N9; have N9f := blk_free N9; have N9l := blk_lt N9
    simp -dsimp [go_sem, N9c, N9f, N9l]
    try simp -dsimp (disch := omega) only [IntWalk.i64_in, IntWalk.u64_in, IntWalk.u8_in]
    have hlen : (B ++ [(⟨T, x⟩ : Entry)]).length = B.length + 1 := by simp
    rw [hlen] at e9 b9
    have N10 : (w9.setCell ⟨nb, 6, none⟩ (.slice wa (B.length + 1) wc)).heap[nb]? = some (.cells #[.int .i64 (headV s 0), .int .i64 (headV s 1), .int .i64 (headV s 2), .int .i64 (headV s 3), .int .i64 (headV s 4), .slice va A.length vc, .slice wa (B.length + 1) wc] 42 (0, 0)) := blk_eq (blk_set N9 6 _) (by first | rfl | simp)
    have sW : Step (fun k => k = nb) w9 (w9.setCell ⟨nb, 6, none⟩ (.slice wa (B.length + 1) wc)) := (Step.refl (fun k => k = nb) w9).set (.inl rfl) _
    have l5 := s5.size
    have l56 := s6.size
    have l6 := s7.size
    have l7 := k8.size
    have hd6 : w6.drew.heap.size = w6.heap.size := rfl
    have l67 : w5.heap.size ≤ w6.heap.size := s6.size
    have hva : ∀ g, ownB (.slice va A.length vc) = some g → g < w7.heap.size := fun g hg => o7.lt hg
    have hua : ∀ g, ownB (.slice ua k uc) = some g → g < w7.heap.size := fun g hg => e7'.lt hg
    have c9' : ∀ g, ownB (.slice wa (B.length + 1) wc) = some g → nb < g := fun g hg => by
      rcases (b9 g hg).1 with q | q
      · exact c5' g q
      · omega
    have s59 : Step (fun k => k = b ∨ k = nb) W (w9.setCell ⟨nb, 6, none⟩ (.slice wa (B.length + 1) wc)) := ((((s56.then kd).trans s7 (fun j _ q => .inl q)).then k8).trans s9' (fun j hj q => by have := c5' j q; omega)).trans sW (fun j _ q => .inr q)
    have o9 : Ow rInt 3 (fun _ => True) w9 (.slice va A.length vc) A := (o7.keep k8).flat flat_int s9' (fun g hg q => d5 g hg q)
    refine back_intro (k + 1) (by simp -dsimp [go_sem]) (by simp -dsimp [go_sem]) ⟨by omega, B ++ [⟨T, x⟩], sk3, _, _, by simp [hBl], by rw [hnm]; simp, ((h7.keep k8).step s9' (fun j q => by have := c5' j q; omega)).step sW (fun j q => by omega), N10, o9.flat flat_int sW (fun g hg q => by have := b5' g hg; omega), e9.flat flat_entry sW (fun g hg q => by have := c9' g hg; omega), fun y hy' => ?_, b5', c9', fun g hg hg2 => ?_, s59⟩ (by omega)
    · rcases List.mem_append.1 hy' with q | q
      · exact hB y q
      · simp at q; subst q; exact hy
    · rcases (b9 g hg2).1 with q | q
      · exact d5 g hg q
      · have := hva g hg; omega
  rintro _ w20 ⟨B, sk, v, u, hnm, h20, N20, o20, e20, hB, b20, c20, d20, s20⟩
  have R20 := s20.blk R0 (fun q => by omega)
  obtain ⟨va, vc, rfl, -⟩ := o20.slice
  obtain ⟨ua, uc, rfl, -⟩ := e20.slice
  have N20c := blk_cell N20; have N20f := blk_free N20; have N20l := blk_lt N20; have R20c := blk_cell R20; have R20f := blk_free R20; have R20l := blk_lt R20
  have hgr : getR s = (⟨headV s 0, headV s 1, headV s 2, headV s 3, headV s 4, A, B⟩, sk) := by
    unfold getR
    simp only
    rw [hPP, hQQ, ← hM, ← hM2, hpg]
    simp only
    rw [hnm]
  rw [hgr]
  unfold Node.enc
  simp -dsimp [go_sem, N20c, N20f, N20l, R20c, R20f, R20l]
  generalize qw21 : World.setCell _ _ _ = w21; have sw21 : Step (fun k => k = w.heap.size) w20 w21 := by (rw [← qw21]; (repeat (with_reducible refine Step.set ?_ ?_ _)); (with_reducible exact Step.refl _ _); all_goals exact .inl (by simp))
  clear qw21
  have hok : ∀ i, I64 (headV s i) := fun i => by have := head_nn s i; exact ⟨by omega, by omega⟩
  have st : Step (fun k => k = b) w w21 := ((Keep.any (O := fun k => k = b) k0).trans s20 (fun j hj q => q.elim id (fun q => by omega))).trans sw21 (fun j hj q => by omega)
  have b20' : ∀ g, ownB (.slice va A.length vc) = some g → nb < g := b20
  have c20' : ∀ g, ownB (.slice ua B.length uc) = some g → nb < g := c20
  exact ⟨_, _, ⟨rfl, rfl⟩, ⟨⟨o20.flat flat_int sw21 (fun g hg q => by have := b20' g hg; omega), e20.flat flat_entry sw21 (fun g hg q => by have := c20' g hg; omega), d20⟩, fun g hg => by have := b20' g hg; omega, fun g hg => by have := c20' g hg; omega⟩, ⟨hok 0, hok 1, hok 2, hok 3, hok 4⟩, h20.step sw21 (fun j q => by omega), st⟩
end Go.Proofs.YtdfjfagljngciaaGreat
