/- Package image: Of, of any words. -/
import Derived.Test.YtdfjfagljngciaaGreatCsm
import Derived.Test.YtdfjfagljngciaaGreatRdr
set_option linter.all false
set_option maxRecDepth 100000
set_option maxHeartbeats 4000000
namespace Go.Proofs.YtdfjfagljngciaaGreat
open Go.RowKit Rx Go.MapKept

theorem check_Open_none (v : Value) (w : World) (X : Nat → Prop) (h : Sl rWord X w v []) :
    Calls Tryz.prog 56 #[v] w fun r w' => r = .returned (.tuple #[.slice none 0 0, .bool false]) ∧ Keep w w' := by
  obtain ⟨a, c, rfl, -⟩ := id h
  refine calls_rx h56 Tryz.func56 rfl Tryz.mixed (by kernel_rfl) Tryz.results56 ?_
  simp -dsimp [go_sem]
  exact ⟨agree_drew (Agree.refl _), keep_drew w⟩
@[go_sem] def hIoa : Rx.Hints := { loops := [(8, ⟨[9, 10], [0, 6, 7, 8]⟩)], joins := [(7, ⟨[9], [0, 6, 7]⟩)] }
theorem image_Of_any (X : Nat → Prop) (v : Value) (L : List UInt64) (hL : L.length ≤ 500) (w : World) (h : Sl rWord X w v L) :
    Calls Tryz.prog 31 #[v] w fun r w' => (ofW L = none ∧ r = .returned (.tuple #[.pointer none, .int .i64 74]) ∧ Keep w w') ∨ (∃ s b m, ofW L = some s ∧ r = .returned (.tuple #[.pointer (some ⟨b, 0, none⟩), .int .i64 0]) ∧ StAt w' (fun k => k = b ∨ k = m) b m s ∧ Keep w w' ∧ w.heap.size ≤ b ∧ w.heap.size ≤ m) := by
  by_cases hne : L = []
  · subst hne
    obtain ⟨a, c, rfl, -⟩ := id h
    refine calls_rx hIoa Tryz.func31 rfl Tryz.mixed (by kernel_rfl) Tryz.results31 ?_
    simp -dsimp [go_sem]
    refine (check_Open_none _ w X h).mono ?_
    rintro _ w1 ⟨rfl, k1⟩
    refine ret_intro ?_
    simp -dsimp [go_sem]
    exact ⟨rfl, k1⟩
  obtain ⟨d, t, rfl⟩ : ∃ d t, L = d ++ [t] := ⟨L.dropLast, L.getLast hne, (List.dropLast_concat_getLast hne).symm⟩
  have hlen : (d ++ [t]).length = d.length + 1 := by simp
  rw [hlen] at hL
  obtain ⟨a, c, rfl, -⟩ := id h
  rw [ofW_snoc]
  refine calls_rx hIoa Tryz.func31 rfl Tryz.mixed (by kernel_rfl) Tryz.results31 ?_
  rw [hlen] at h ⊢
  simp -dsimp [go_sem]
  refine (check_Open X _ d t (by omega) w h).mono ?_
  rintro _ w1 ⟨o, rfl, ho, k1⟩
  refine ret_intro ?_
  by_cases hsum : sumL d = t
  rotate_left
  · rw [decide_eq_false hsum, if_neg hsum]
    simp -dsimp [go_sem]
    exact k1
  obtain ⟨o1, b1⟩ := ho hsum
  rw [decide_eq_true hsum, if_pos hsum]
  obtain ⟨oa, oc, rfl, -⟩ := o1.slice
  have l1 := k1.size
  simp -dsimp [go_sem]
  refine (words_New (fun _ => False) _ d (by omega) w1 ((o1.all flat_word (Y := fun _ => False)).sl (fun _ _ q => q))).mono ?_
  rintro _ w2 ⟨rb, rfl, h2, k2, hrb⟩
  refine ret_intro ?_
  have k02 := Keep.trans k1 k2
  have l2 := k2.size
  have h2 : RdP w2 rb (d, false) := h2
  simp -dsimp [go_sem]
  refine (reader_NumP rb _ w2 h2).mono ?_
  rintro _ w3 ⟨rfl, h3, s3⟩
  refine ret_intro ?_
  simp -dsimp [go_sem]
  refine (reader_NumP rb _ w3 h3).mono ?_
  rintro _ w4 ⟨rfl, h4, s4⟩
  refine ret_intro ?_
  have k04 : Keep w w4 := Step.keep (Step.keep k02 s3 (fun j q => by omega)) s4 (fun j q => by omega)
  have hn1 : 0 ≤ (numP (d, false)).1 ∧ (numP (d, false)).1 ≤ 4611686018427387904 := numR_nn d false
  have hn2 : 0 ≤ (numP (numP (d, false)).2).1 ∧ (numP (numP (d, false)).2).1 ≤ 4611686018427387904 := numR_nn _ _
  have hrw : readW d = ((numP (d, false)).1, nodesR (min (numP (numP (d, false)).2).1 65536).toNat (numP (numP (d, false)).2).2) := rfl
  generalize hN : (numP (numP (d, false)).2).1 = N at hn2 hrw ⊢
  generalize hR : (numP (numP (d, false)).2).2 = R2 at h4 hrw
  obtain ⟨M, hM⟩ : ∃ M, M = (min N 65536).toNat := ⟨_, rfl⟩
  rw [← hM] at hrw
  clear h2 h3 s3 s4
  simp -dsimp [go_sem]
  refine join_intro (σ := Value) (fun u => [u]) (fun u w' => Keep w w' ∧ RdP w' rb (readW d).2.2 ∧ Ow rNode 42 (fun j => j = rb ∨ ownB u = some j) w' u (readW d).2.1) (by simp -dsimp [go_sem]; rfl) ?_ ?_
  · simp -dsimp [go_sem]
    refine loop_intro (σ := (Nat × Value) × (List Node × Rd)) (fun t => [t.1.2, .int .i64 t.1.1]) (fun t w' => t.1.1 ≤ M ∧ Keep w w' ∧ RdP w' rb t.2.2 ∧ t.2.1.length = t.1.1 ∧ (nodesR M R2 = (t.2.1 ++ (nodesR (M - t.1.1) t.2.2).1, (nodesR (M - t.1.1) t.2.2).2)) ∧ Ow rNode 42 (fun j => j = rb ∨ ownB t.1.2 = some j) w' t.1.2 t.2.1 ∧ ∀ g, ownB t.1.2 = some g → rb < g) (fun t => M - t.1.1) ((0, .slice none 0 0), ([], R2)) (by simp -dsimp [go_sem]; rfl) (by simp -dsimp [go_sem]) ⟨Nat.zero_le _, k04, h4, rfl, by simp, by simpa using Ow.nil _ _ _ _, by simp [ownB]⟩ ?_
    clear h4
    rintro ⟨⟨i, u⟩, ⟨A, sk⟩⟩ w5 ⟨hi, k5, h5, hAl, hnd, o5, b5⟩
    simp only at hi h5 hAl hnd o5 b5
    obtain ⟨ua, uc, rfl, -⟩ := o5.slice
    rw [hAl] at o5 b5
    have out : (i = M ∨ sk.2 = true) → RdP w5 rb (readW d).2.2 ∧ Ow rNode 42 (fun j => j = rb ∨ ownB (.slice ua i uc) = some j) w5 (.slice ua i uc) (readW d).2.1 := fun q => by
      have hp0 : nodesR (M - i) sk = ([], sk) := by
        rcases q with q | q
        · rw [q, Nat.sub_self, nodesR]
        · cases hq : M - i with
          | zero => rw [nodesR]
          | succ j => rw [nodesR, if_pos q]
      rw [hp0, List.append_nil] at hnd
      rw [hrw, hnd]
      exact ⟨h5, o5⟩
    rw [hAl]
    simp -dsimp [go_sem]
    by_cases y1 : (i : Int) < N
    rotate_left
    · simp -dsimp [go_sem, y1]
      exact meet_intro (.slice ua i uc) (by simp -dsimp [go_sem]) (by simp -dsimp [go_sem]) ⟨k5, out (.inl (by omega))⟩
    by_cases y2 : (i : Int) < 65536
    rotate_left
    · simp -dsimp [go_sem, y1, y2]
      exact meet_intro (.slice ua i uc) (by simp -dsimp [go_sem]) (by simp -dsimp [go_sem]) ⟨k5, out (.inl (by omega))⟩
    simp -dsimp [go_sem, y1, y2]
    refine (reader_Bad rb _ _ w5 h5).mono ?_; rintro _ w6 ⟨rfl, rfl⟩; refine ret_intro ?_
    cases hbad : sk.2
    rotate_left
    · simp -dsimp [go_sem, y1, y2]
      exact meet_intro (.slice ua i uc) (by simp -dsimp [go_sem]) (by simp -dsimp [go_sem]) ⟨k5, out (.inr hbad)⟩
    clear out
    simp -dsimp [go_sem, y1, y2]
    refine (image_get rb sk w5 h5).mono ?_
    rintro _ w6 ⟨p, q, rfl, n6, hok6, h6, s6⟩
    refine ret_intro ?_
    have hdn : nodesR (M - i) sk = ((getR sk).1 :: (nodesR (M - (i + 1)) (getR sk).2).1, (nodesR (M - (i + 1)) (getR sk).2).2) := by
      rw [show M - i = (M - (i + 1)) + 1 from by omega, nodesR, if_neg (by rw [hbad]; decide)]
    rw [hdn] at hnd
    generalize getR sk = gs at n6 hok6 h6 hnd
    obtain ⟨x, sk2⟩ := gs
    simp only at n6 hok6 h6 hnd
    obtain ⟨pa, pc, qa, qc, rfl, rfl, -⟩ := n6.slices
    have hrb5 := h5.lt
    unfold Node.enc
    simp -dsimp [go_sem]
    generalize hW : w6.alloc _ = w7
    obtain ⟨X7, k7, z7⟩ := alloc1 hW
    clear hW
    have b5' : ∀ g, ownB (.slice ua i uc) = some g → rb < g := b5
    have hlt5 : ∀ g, ownB (.slice ua i uc) = some g → g < w5.heap.size := fun g hg' => o5.lt hg'
    have o7 := (o5.step s6 (fun j q => .inl q) (fun g hg' q => by have := b5' g hg'; omega)).keep k7
    have l6 := s6.size
    have l7 := k7.size
    have l5 := k5.size
    rw [← hAl]
    rw [← hAl] at o7
    refine app_node (X := fun j => j = rb ∨ ownB (.slice ua i uc) = some j) (x := x) (cs := x.enc (.slice pa x.pages.length pc) (.slice qa x.names.length qc)) X7 ((n6.keep k7).rep hok6 (fun g _ hx => ?_)) (fun q => ?_) (by rw [hAl] at o7 ⊢; exact o7) (fun g hg' => .inr (by rw [← hAl]; exact hg')) (by omega) ?_
    · rcases hx with q | q
      · omega
      · exact hlt5 g q
    · rcases q with q | q
      · omega
      · have := hlt5 _ q; omega
    intro v8 w8 o8 s8 b8
    rw [hAl] at s8 b8
    obtain ⟨va, vc, rfl, -⟩ := o8.slice
    have hl8 : (A ++ [x]).length = i + 1 := by simp [hAl]
    rw [hl8] at o8 b8 ⊢
    simp -dsimp [go_sem]
    try simp -dsimp (disch := omega) only [IntWalk.i64_in, IntWalk.u64_in, IntWalk.u8_in]
    refine back_intro ((i + 1, .slice va (i + 1) vc), (A ++ [x], sk2)) (by simp -dsimp [go_sem, hAl]) (by simp -dsimp [go_sem]) ⟨by simp only; omega, ?_, (h6.keep k7).step s8 (fun j q => b5' j q), hl8, by rw [hnd]; simp, o8.mono (fun j hj q => ?_), fun g hg' => ?_⟩ (by simp only; omega)
    · exact Step.keep (Keep.trans (Step.keep k5 s6 (fun j q => by omega)) k7) s8 (fun j q => by have := b5' j q; omega)
    · rcases q with q | q
      · exact .inl (.inl q)
      · exact .inr q
    · rcases (b8 g hg').1 with q | q
      · exact b5' g q
      · omega
  rintro u w5 ⟨k5, h5, o5⟩
  obtain ⟨ua, uc, rfl, -⟩ := o5.slice
  have hl := readW_last d
  have hl5 : (readW d).2.1.length ≤ 65536 ∧ ∀ n ∈ (readW d).2.1, n.pages.length ≤ 64 ∧ n.names.length ≤ 65536 := by
    rw [hrw]
    have := nodesR_len M R2
    exact ⟨by simp only; omega, this.2⟩
  rw [show (numP (d, false)).1 = (readW d).1 from rfl]
  simp -dsimp [go_sem]
  refine (state_Of_any _ (readW d).2.1 (readW d).1 (by omega) (fun n hn => by have := hl5.2 n hn; omega) (by omega) w5 ((o5.mono (Y := fun _ => False) (fun _ _ q => q.elim)).sl (fun _ _ q => q))).mono ?_
  have l5 := k5.size
  rintro _ w6 (⟨ho, rfl, k6⟩ | ⟨s, b, m, ho, rfl, h6, k6, hb6, hm6⟩)
  · refine ret_intro ?_
    rw [ho]
    simp -dsimp [go_sem]
    refine (reader_Bad rb _ _ w6 (h5.keep k6)).mono ?_; rintro _ w7 ⟨rfl, rfl⟩; refine ret_intro ?_
    cases hbad : (readW d).2.2.2
    · simp -dsimp [go_sem]
      exact Keep.trans k5 k6
    · simp -dsimp [go_sem]
      exact Keep.trans k5 k6
  refine ret_intro ?_
  rw [ho]
  simp -dsimp [go_sem]
  refine (reader_Bad rb _ _ w6 (h5.keep k6)).mono ?_; rintro _ w7 ⟨rfl, rfl⟩; refine ret_intro ?_
  cases hbad : (readW d).2.2.2
  rotate_left
  · simp -dsimp [go_sem]
    exact Keep.trans k5 k6
  have hg := ofS_good (b := d) (by omega) hbad ho
  simp -dsimp [go_sem]
  refine (image_Put _ b m s 256 hg (by omega) w6 h6).mono ?_; rintro _ w7 ⟨pu, rfl, o7, k7, -⟩; refine ret_intro ?_
  obtain ⟨pa, pc, rfl, -⟩ := o7.slice
  have k67 := Keep.trans k5 (Keep.trans k6 k7)
  simp -dsimp [go_sem]
  refine (equal_words (fun _ => False) X _ _ (imageW s) (d ++ [t]) w7 ((o7.all flat_word (Y := fun _ => False)).sl (fun _ _ q => q)) (h.keep k67)).mono ?_; rintro _ w8 ⟨rfl, k8⟩; refine ret_intro ?_
  by_cases hq : imageW s = d ++ [t]
  · rw [decide_eq_true hq]
    simp -dsimp [go_sem]
    exact ⟨_, ⟨hq, rfl⟩, _, (h6.keep k7).keep k8, Keep.trans k67 k8, by omega, by omega⟩
  · rw [decide_eq_false hq]
    simp -dsimp [go_sem]
    exact ⟨by simp [hq], Keep.trans k67 k8⟩
end Go.Proofs.YtdfjfagljngciaaGreat
