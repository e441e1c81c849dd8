/- Package image: Of, of a right state's own words; of words one of which was spoilt. -/
import Derived.Test.YtdfjfagljngciaaGreatRdn
import Derived.Test.YtdfjfagljngciaaGreatOpn
import Derived.Test.YtdfjfagljngciaaGreatSof
set_option linter.all false
set_option maxRecDepth 100000
set_option maxHeartbeats 4000000
namespace Go.Proofs.YtdfjfagljngciaaGreat
open Go.RowKit Rx Go.MapKept

theorem image_Of (X : Nat → Prop) (v : Value) (s : St) (k : Nat) (hg : Good k s) (hk : k ≤ 2 ^ 8) (ht : Tr (fun _ => 0) s) (hnd : (refsS s).Nodup) (hrd : ∀ n ∈ s.L, RdOk n) (w : World) (h : Sl rWord X w v (imageW s)) :
    Calls Tryz.prog 31 #[v] w fun r w' => ∃ b m, r = .returned (.tuple #[.pointer (some ⟨b, 0, none⟩), .int .i64 0]) ∧ StAt w' (fun k => k = b ∨ k = m) b m s ∧ Keep w w' ∧ w.heap.size ≤ b ∧ w.heap.size ≤ m := by
  have hgl := hg.len
  have hlast : NumOk s.last := ⟨by have := hg.l0; omega, by have := hg.l1; omega⟩
  have hbl : (bodyW s).length ≤ 2 ^ 40 := by
    have := nodesW_le hg hk s.L.length
    rw [List.take_length] at this
    unfold bodyW
    simp only [List.length_cons]
    omega
  obtain ⟨a, c, rfl, -⟩ := id h
  refine calls_rx h31 Tryz.func31 rfl Tryz.mixed (by kernel_rfl) Tryz.results31 ?_
  simp -dsimp [go_sem]
  refine (check_Open X _ (bodyW s) (sumL (bodyW s)) hbl w h).mono ?_
  rintro _ w1 ⟨o, rfl, ho, k1⟩
  refine ret_intro ?_
  obtain ⟨o1, b1⟩ := ho rfl
  rw [decide_eq_true rfl]
  obtain ⟨oa, oc, rfl, -⟩ := o1.slice
  simp -dsimp [go_sem]
  refine (words_New (fun _ => False) _ (bodyW s) hbl w1 ((o1.all flat_word (Y := fun _ => False)).sl (fun _ _ q => q))).mono ?_
  rintro _ w2 ⟨rb, rfl, h2, k2, hrb⟩
  refine ret_intro ?_
  have k02 := Keep.trans k1 k2
  have l1 := k1.size
  have h2 : RdP w2 rb (bodyW s, false) := h2
  simp -dsimp [go_sem]
  refine (reader_NumP rb _ w2 h2).mono ?_
  rintro _ w3 ⟨rfl, h3, s3⟩
  refine ret_intro ?_
  have e1 : numP (bodyW s, false) = (s.last, (u64I s.L.length :: s.L.flatMap nodeW, false)) := numP_cons hlast _
  rw [e1] at h3 ⊢
  simp -dsimp [go_sem]
  refine (reader_NumP rb _ w3 h3).mono ?_
  rintro _ w4 ⟨rfl, h4, s4⟩
  refine ret_intro ?_
  have e2 : numP (u64I s.L.length :: s.L.flatMap nodeW, false) = ((s.L.length : Int), (s.L.flatMap nodeW, false)) := numP_cons ⟨by omega, by omega⟩ _
  rw [e2] at h4 ⊢
  have l2 := k2.size
  have k04 : Keep w w4 := Step.keep (Step.keep k02 s3 (fun j q => by omega)) s4 (fun j q => by omega)
  simp -dsimp [go_sem]
  refine loop_intro (σ := Nat × Value) (fun t => [t.2, .int .i64 t.1]) (fun t w' => t.1 ≤ s.L.length ∧ Keep w w' ∧ RdP w' rb ((s.L.drop t.1).flatMap nodeW, false) ∧ Ow rNode 42 (fun j => j = rb ∨ ownB t.2 = some j) w' t.2 (s.L.take t.1) ∧ ∀ g, ownB t.2 = some g → rb < g) (fun t => s.L.length - t.1) (0, .slice none 0 0) (by simp -dsimp [go_sem]; rfl) (by simp -dsimp [go_sem]) ⟨by omega, k04, h4, by simpa using Ow.nil _ _ _ _, by simp [ownB]⟩ ?_
  clear h4
  rintro ⟨i, u⟩ w5 ⟨hi, k5, h5, o5, b5⟩
  simp only at hi h5 o5 b5
  obtain ⟨ua, uc, rfl, -⟩ := o5.slice
  have hml : (s.L.take i).length = i := by rw [List.length_take]; omega
  rw [hml] at o5 b5
  simp -dsimp [go_sem]
  by_cases g1 : i < s.L.length
  rotate_left
  · obtain rfl : i = s.L.length := by omega
    rw [List.take_length] at o5
    simp -dsimp [go_sem, Nat.lt_irrefl]
    refine (state_Of _ s k hg (by omega) ht hnd w5 ((o5.mono (Y := fun _ => False) (fun _ _ q => q.elim)).sl (fun _ _ q => q))).mono ?_; rintro _ w6 ⟨b, m, rfl, h6, k6, hb6, hm6⟩; refine ret_intro ?_
    simp -dsimp [go_sem]
    have l5 := k5.size
    rw [List.drop_length] at h5
    refine (reader_Bad rb _ false w6 (h5.keep k6)).mono ?_; rintro _ w7 ⟨rfl, rfl⟩; refine ret_intro ?_
    simp -dsimp [go_sem]
    refine (image_Put _ b m s k hg hk w6 h6).mono ?_; rintro _ w7 ⟨pu, rfl, o7, k7, -⟩; refine ret_intro ?_
    obtain ⟨pa, pc, rfl, -⟩ := o7.slice
    have k67 := Keep.trans k5 (Keep.trans k6 k7)
    simp -dsimp [go_sem]
    refine (equal_words (fun _ => False) X _ _ (imageW s) (imageW s) w7 ((o7.all flat_word (Y := fun _ => False)).sl (fun _ _ q => q)) (h.keep k67)).mono ?_; rintro _ w8 ⟨rfl, k8⟩; refine ret_intro ?_
    rw [decide_eq_true rfl]
    simp -dsimp [go_sem]
    exact ⟨_, (h6.keep k7).keep k8, Keep.trans k67 k8, by omega, by omega⟩
  have g2 : (i : Int) < 65536 := by omega
  have hxx : s.L[i]? = some s.L[i] := List.getElem?_eq_getElem _
  generalize s.L[i] = x at hxx
  have hdr : s.L.drop i = x :: s.L.drop (i + 1) := by
    obtain ⟨q1, q2⟩ := List.getElem?_eq_some_iff.1 hxx
    rw [List.drop_eq_getElem_cons q1, q2]
  rw [hdr, List.flatMap_cons] at h5
  simp -dsimp [go_sem, g1, g2]
  refine (reader_Bad rb _ false w5 h5).mono ?_; rintro _ w6 ⟨rfl, rfl⟩; refine ret_intro ?_
  simp -dsimp [go_sem, g1, g2]
  refine (image_get rb _ w5 h5).mono ?_
  rw [getR_node (hrd x (List.mem_of_getElem? hxx))]
  rintro _ w6 ⟨p, q, rfl, n6, hok6, h6, s6⟩
  refine ret_intro ?_
  obtain ⟨pa, pc, qa, qc, rfl, rfl, -⟩ := n6.slices
  simp only at n6 h6 hok6
  have hrb5 := h5.lt
  unfold Node.enc
  simp -dsimp [go_sem]
  generalize hW : w6.alloc _ = w7
  obtain ⟨X7, k7, z7⟩ := alloc1 hW
  clear hW
  rw [Nat.min_eq_left hi]
  have b5' : ∀ g, ownB (.slice ua i uc) = some g → rb < g := b5
  have hlt5 : ∀ g, ownB (.slice ua i uc) = some g → g < w5.heap.size := fun g hg' => o5.lt hg'
  have o7 := (o5.step s6 (fun j q => .inl q) (fun g hg' q => by have := b5' g hg'; omega)).keep k7
  have l6 := s6.size
  have l7 := k7.size
  refine app_node (X := fun j => j = rb ∨ ownB (.slice ua i uc) = some j) (x := x) (cs := x.enc (.slice pa x.pages.length pc) (.slice qa x.names.length qc)) X7 ((n6.keep k7).rep hok6 (fun g _ hx => ?_)) (fun q => ?_) o7 (fun g hg' => .inr hg') (by omega) ?_
  · rcases hx with q | q
    · omega
    · exact hlt5 g q
  · rcases q with q | q
    · omega
    · have := hlt5 _ q; omega
  intro v8 w8 o8 s8 b8
  have hnx : s.L.take i ++ [x] = s.L.take (i + 1) := by rw [List.take_add_one, hxx]; rfl
  rw [hnx] at o8
  obtain ⟨va, vc, rfl, -⟩ := o8.slice
  simp -dsimp [go_sem]
  try simp -dsimp (disch := omega) only [IntWalk.i64_in, IntWalk.u64_in, IntWalk.u8_in]
  refine back_intro (i + 1, .slice va (s.L.take (i + 1)).length vc) (by simp -dsimp [go_sem]) (by simp -dsimp [go_sem]) ⟨by omega, ?_, (h6.keep k7).step s8 (fun j q => b5' j q), o8.mono (fun j hj q => ?_), fun g hg' => ?_⟩ (by simp only; omega)
  · have l5 := k5.size
    have l02 := k02.size
    exact Step.keep (Keep.trans (Step.keep k5 s6 (fun j q => by omega)) k7) s8 (fun j q => by have := b5' j q; omega)
  · rcases q with q | q
    · exact .inl (.inl q)
    · exact .inr q
  · rcases (b8 g hg').1 with q | q
    · exact b5' g q
    · omega
theorem image_Of_bad (X : Nat → Prop) (v : Value) (d : List UInt64) (t : UInt64) (hd : d.length ≤ 2 ^ 40) (hne : sumL d ≠ t) (w : World) (h : Sl rWord X w v (d ++ [t])) :
    Calls Tryz.prog 31 #[v] w fun r w' => r = .returned (.tuple #[.pointer none, .int .i64 74]) ∧ Keep w w' := by
  obtain ⟨a, c, rfl, -⟩ := id h
  have hlen : (d ++ [t]).length = d.length + 1 := by simp
  rw [hlen] at h ⊢
  refine calls_rx h31 Tryz.func31 rfl Tryz.mixed (by kernel_rfl) Tryz.results31 ?_
  simp -dsimp [go_sem]
  refine (check_Open X _ d t hd w h).mono ?_
  rintro _ w1 ⟨o, rfl, -, k1⟩
  refine ret_intro ?_
  rw [decide_eq_false hne]
  simp -dsimp [go_sem]
  exact k1
end Go.Proofs.YtdfjfagljngciaaGreat
