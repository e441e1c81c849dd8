/- 'sumplaw18.ImageBack' answers true, whatever it is asked, and what it is asked reads as it did; no condition. -/
import Derived.Test.YtdfjfagljngciaaGreatIof
import Derived.Test.YtdfjfagljngciaaGreatRor
import Derived.Test.YtdfjfagljngciaaGreatAlk
import Derived.Test.YtdfjfagljngciaaGreatApa
import Derived.Test.YtdfjfagljngciaaGreatRow
import Derived.SizedLaws
set_option linter.all false
set_option maxRecDepth 100000
set_option maxHeartbeats 4000000
namespace Go.Proofs.YtdfjfagljngciaaGreat
open Go.RowKit Rx Go.MapKept

theorem mul_back (a : UInt64) : a * 1099511628211 * 14886173955864302971 = a := by
  rw [UInt64.mul_assoc, show (1099511628211 : UInt64) * 14886173955864302971 = 1 from by decide, UInt64.mul_one]
theorem xor_back (a x : UInt64) : (a ^^^ x) ^^^ x = a := by
  rw [UInt64.xor_assoc, UInt64.xor_self, UInt64.xor_zero]
theorem moreW_xor {s t x y : UInt64} (h : moreW s x = moreW t y) : s ^^^ x = t ^^^ y := by
  unfold moreW at h
  rw [← mul_back (s ^^^ x), h, mul_back]
theorem moreW_st {s t x : UInt64} (h : moreW s x = moreW t x) : s = t := by
  have := moreW_xor h
  rw [← xor_back s x, this, xor_back]
theorem moreW_wd {s x y : UInt64} (h : moreW s x = moreW s y) : x = y := by
  have := moreW_xor h
  rw [UInt64.xor_comm s x, UInt64.xor_comm s y] at this
  rw [← xor_back x s, this, xor_back]
theorem fold_st : ∀ (l : List UInt64) {s t : UInt64}, l.foldl moreW s = l.foldl moreW t → s = t
  | [], s, t, h => h
  | x :: l, s, t, h => moreW_st (fold_st l h)
theorem fold_set : ∀ (l : List UInt64) (i : Nat) (s x w : UInt64), l[i]? = some x → (l.set i w).foldl moreW s = l.foldl moreW s → w = x
  | [], i, s, x, w, h, _ => by simp at h
  | y :: l, 0, s, x, w, h, e => by
    simp at h
    subst h
    exact moreW_wd (fold_st l e)
  | y :: l, i + 1, s, x, w, h, e => fold_set l i _ x w (by simpa using h) e
/-- A word of an image that is another one: its sum is another one. -/
theorem spoilt (d : List UInt64) (i : Nat) (x w : UInt64) (hx : (d ++ [sumL d])[i]? = some x) (hw : x ≠ w) : ∃ d' t, (d ++ [sumL d]).set i w = d' ++ [t] ∧ d'.length = d.length ∧ sumL d' ≠ t := by
  by_cases hi : i < d.length
  · rw [List.getElem?_append_left hi] at hx
    refine ⟨d.set i w, sumL d, by rw [List.set_append_left _ _ hi], List.length_set, fun q => ?_⟩
    exact hw (fold_set d i _ x w hx q).symm
  · have hi2 : i = d.length := by
      have := (List.getElem?_eq_some_iff.1 hx).1
      simp at this; omega
    subst hi2
    refine ⟨d, w, by rw [List.set_append_right _ _ (by omega)]; simp, rfl, fun q => ?_⟩
    rw [List.getElem?_append_right (by omega), Nat.sub_self] at hx
    simp at hx
    exact hw (by rw [← hx, q])
theorem names_len : ∀ (l : List Entry), ((l.flatMap nameW).length : Int) = sumW l
  | [] => by simp [sumW]
  | x :: l => by
    have ih := names_len l
    have h1 := needW_len x.name.data.toList
    rw [show x.name.data.toList.length = x.name.size from by simp] at h1
    have h2 : (nameW x).length = (packL x.name.data.toList).length + 2 := by unfold nameW; simp
    rw [List.flatMap_cons, List.length_append, sumW, h2, h1]
    omega
theorem nodeW_len (n : Node) : ((nodeW n).length : Int) = wordsN n := by
  have := names_len n.names
  unfold nodeW wordsN
  rw [List.length_append, List.length_append, List.length_map, List.length_map]
  rw [show (headN n).length = 7 from rfl]
  omega
theorem nodesW_len : ∀ (L : List Node), ((L.flatMap nodeW).length : Int) = sumF wordsN L
  | [] => by simp [sumF]
  | n :: L => by
    have ih := nodesW_len L
    have h1 := nodeW_len n
    rw [List.flatMap_cons, List.length_append, sumF_cons]
    omega
theorem imageW_len (s : St) : ((imageW s).length : Int) = wordsS s + 1 := by
  have h1 := nodesW_len s.L
  unfold imageW bodyW wordsS
  simp only [List.length_append, List.length_cons, List.length_nil]
  omega
theorem Wi.inv {s : St} {d i : Int} (h : Wi s d i) : i = d ∨ (isDir s i = true ∧ (dirN s i).up ≠ i ∧ Wi s d (dirN s i).up) := by
  cases h with
  | refl => exact .inl rfl
  | up h1 h2 h3 => exact .inr ⟨h1, h2, h3⟩
theorem up_pos {k : Nat} {s : St} (hg : Good k s) (ht : Tr (fun _ => 0) s) {n : Node} (hn : n ∈ s.L) (hk : n.kind = 2) : 1 ≤ n.up ∧ n.up ≤ s.last := by
  have hI : Inos s.L := hg.inos
  have hd : dirN s n.ino = n := dirN_some (getL_mem hI hn)
  have hl0 := hg.l0
  rcases (ht.anc n hn hk).inv with h1 | ⟨h1, h2, h3⟩
  · have hr := ht.rup
    rw [← h1, hd] at hr
    omega
  · rw [hd] at h2 h3
    rcases h3.inv with h4 | ⟨h4, -, -⟩
    · omega
    · obtain ⟨m1, m2, m3⟩ := dirN_mem hg h4
      have := hg.pos _ m1
      omega
theorem rd_ok {i : Nat} {s : St} (h : OwnR i s) (hi : i ≤ 100) : ∀ n ∈ s.L, RdOk n := fun n hn => by
  have hg := h.good
  have ok := hg.ok n hn
  have hp := hg.pos n hn
  have hl1 := hg.l1
  have hkd := h.tr.kd n hn
  have hlen := ok.len
  have hcnt : 0 ≤ timesL s.L n.ino := (sumF_le (f := fun m => cntE m.names n.ino) (C := 2 ^ 20) (fun m hm => ⟨cntE_nn _ _, by
    have h1 := (hg.ok m hm).len
    have h2 : cntE m.names n.ino ≤ m.names.length := by unfold cntE; have := List.countP_le_length (p := fun x : Entry => decide (x.ino = n.ino)) (l := m.names); omega
    omega⟩)).1
  have hct := h.tr.ct n hn
  have hlk : 0 ≤ n.links := by
    rcases hkd with q | q
    · rw [if_neg (by omega)] at hct; omega
    · have := (h.tr.kl n hn q).1; omega
  have hl2 := ok.l1
  have hsz : 0 ≤ n.size ∧ n.size ≤ 16384 := by
    rcases ok.kd with ⟨-, h1, h2, -⟩ | ⟨q, -⟩
    · exact ⟨h1, h2⟩
    · have := (h.tr.kl n hn q).2; omega
  have hup : 0 ≤ n.up ∧ n.up ≤ 1000 := by
    rcases hkd with q | q
    · have := (h.tr.kf n hn q).2; omega
    · have := up_pos hg h.tr hn q; omega
  have hpg := ok.pg
  refine ⟨fun x hx => ?_, fun x hx => ?_, fun x hx => ?_, hpg, by omega⟩
  · unfold NumOk
    simp only [headN, List.mem_cons, List.not_mem_nil, or_false] at hx
    rcases hx with rfl | rfl | rfl | rfl | rfl | rfl | rfl
    all_goals omega
  · unfold NumOk
    by_cases hx0 : x = 0
    · omega
    · have := (h.rf.own n hn).2 x (by unfold refsN; rw [List.mem_filter]; exact ⟨hx, by simp [hx0]⟩)
      omega
  · refine ⟨(ok.nm x hx).1, ?_⟩
    have h1 := (ok.nm x hx).2
    obtain ⟨y, hy, hy2, -⟩ := h.tr.ex n hn x hx
    have := hg.pos y hy
    unfold NumOk
    omega
end Go.Proofs.YtdfjfagljngciaaGreat
namespace Go.Proofs.YtdfjfagljngciaaGreat
open Go.RowKit Rx Go.MapKept

theorem alloc1s {w W : World} {A : Obj} (h : w.alloc A = W) : W.heap[w.heap.size]? = some A ∧ Keep w W ∧ W.heap.size = w.heap.size + 1 := alloc1 h
theorem two_new {w w1 w2 : World} {b m c : Nat} {u : Value} (h1 : StAt w1 (fun k => False ∨ k = b ∨ k = m) b m st0) (h2 : RAt w2 (fun k => (k = b ∨ k = m) ∨ k = c ∨ ownB u = some k) c u st0) (k1 : Keep w w1) (k2 : Keep w1 w2) (hb1 : w.heap.size ≤ b) (hm1 : w.heap.size ≤ m) (hc2 : w1.heap.size ≤ c) (hu2 : ∀ g, ownB u = some g → w1.heap.size ≤ g) : Two w2 w.heap.size b m c u st0 st0 := by
  have hbm := h1.size_b
  have hu2' := h2.xl
  have l1 := k1.size
  refine ⟨h1.stepY k2 (fun _ q => q.elim) id id (fun k hk q => ?_) (fun k q => hu2' k ?_) (.inl rfl) (.inr (.inl rfl)), h2.mono (.inr (.inr (.inl rfl))) (fun g q => .inr (.inr (.inr q))) (fun k q => ?_), hb1, hm1, by omega, fun g q => by have := hu2 g q; omega, by omega, by omega, fun g q => by have := hu2 g q; omega⟩
  · rcases q with q | q | q | q
    · exact .inr (.inl q)
    · exact .inr (.inr q)
    · omega
    · have := hu2 k q; omega
  · rcases q with q | q | q | q
    · exact .inl (.inl q)
    · exact .inl (.inr q)
    · exact .inr (.inl q)
    · exact .inr (.inr q)
  · rcases q with q | q | q | q
    · exact .inl (.inl q)
    · exact .inl (.inr q)
    · exact .inr (.inl q)
    · exact .inr (.inr q)
theorem image_Need (X : Nat → Prop) (b m : Nat) (s : St) (k : Nat) (hg : Good k s) (hk : k ≤ 2 ^ 8) (w : World) (h : StAt w X b m s) :
    Calls Tryz.prog 32 #[.pointer (some ⟨b, 0, none⟩)] w fun r w' => r = .returned (.int .i64 (wordsS s + 1)) ∧ Keep w w' := by
  have hb := words_bd hg (by omega)
  have e1 : IntKind.i64.wrap (wordsS s + 1) = wordsS s + 1 := IntWalk.i64_in _ (by omega)
  refine calls_rx h32 Tryz.func32 rfl Tryz.mixed (by kernel_rfl) Tryz.results32 ?_
  simp -dsimp [go_sem]
  refine (state_Words X b m s k hg (by omega) w h).mono ?_; rintro _ w1 ⟨rfl, k1⟩; refine ret_intro ?_
  simp -dsimp [go_sem, e1]
  exact k1
theorem image_back_law (v : Value) (l : List Deed16) (i : Int) (x : UInt64) (w : World) (hl : Sl rDeed16 (fun _ => False) w v l) (hlen : l.length * 112 ≤ 140737488351232) :
    Calls Tryz.prog 6 #[v, .int .i64 i, .int .u64 x.toNat] w fun r w' => r = .returned (.bool true) ∧ Keep w w' := by
  obtain ⟨a, c, rfl, -⟩ := id hl
  generalize hi0 : i = i0
  generalize hx0 : x = x0
  refine calls_rx h6 Tryz.func6 rfl Tryz.mixed (by kernel_rfl) Tryz.results6 ?_
  simp -dsimp [go_sem]
  refine (awake18 w).mono ?_; rintro _ w1 ⟨rfl, k1⟩; refine ret_intro ?_
  simp -dsimp [go_sem]
  refine (few16 _ l w1 (hl.keep k1) (by omega)).mono ?_
  rintro _ w2 ⟨bf, rfl, hbf, k2⟩
  refine ret_intro ?_
  have k02 := Keep.trans k1 k2
  cases bf
  · simp -dsimp [go_sem]
    exact k02
  obtain ⟨hl30, hlf⟩ := hbf rfl
  simp -dsimp [go_sem]
  obtain ⟨w4, hw4⟩ : ∃ w4, w4 = w2 := ⟨_, rfl⟩
  rw [← hw4] at k02 ⊢
  have k04 := k02
  have l4 := k04.size
  refine (state_New (fun _ => False) w4 (fun _ q => q.elim)).mono ?_; rintro _ w5 ⟨b, m, rfl, h5, k5, hb5, hm5⟩; refine ret_intro ?_
  simp -dsimp [go_sem]
  have hbm := h5.size_b
  refine (ref_New (fun k => k = b ∨ k = m) w5 (fun k q => by rcases q with rfl | rfl; exact hbm.1; exact hbm.2.1)).mono ?_; rintro _ w6 ⟨rc, u, rfl, h6, k6, hc6, hu6⟩; refine ret_intro ?_
  have T6 := two_new h5 h6 k5 k6 hb5 hm5 hc6 hu6
  clear h5 h6 hc6 hu6
  have k46 := Keep.trans k5 k6
  have lD4 := k46.size
  simp -dsimp [go_sem]
  have hl' : Sl rDeed16 (fun k => w4.heap.size ≤ k) w4 (.slice a l.length c) l := (hl.keep k04).mono (fun k hk q => by omega)
  refine loop_intro (σ := Nat) (fun i => [.int .i64 i]) (fun i w' => i ≤ l.length ∧ Keep w4 w' ∧ ∃ u, Two w' w4.heap.size b m rc u (ownS l i) (ownS l i)) (fun i => l.length - i) 0 (by simp -dsimp [go_sem]; rfl) (by simp -dsimp [go_sem]) ⟨Nat.zero_le _, k46, u, by rw [ownS_zero]; exact T6⟩ ?_
  clear T6
  rintro i w7 ⟨hi, k7, u, T7⟩
  have hown := ownR_own l i hi (by omega)
  simp -dsimp [go_sem]
  by_cases g1 : i < l.length
  · have hx : l[i]? = some l[i] := List.getElem?_eq_getElem _
    generalize l[i] = x at hx
    obtain ⟨q, off, c', dx, e, hq, -, hok, hdx, c0, c1, c2, c3, c4, c5, c6, c7, c8, c9⟩ := (hl'.keep k7).deed16 hx
    cases e
    obtain ⟨xa, xc, rfl, -⟩ := id hdx
    have i2 : (i : Int) < l.length := by omega
    have hdn := ownS_next hx
    have hfi := hown.good.fine (by omega)
    have hfx := few_sizes (hlf x (List.mem_of_getElem? hx))
    have e1 : IntKind.i64.wrap ((i : Int) + 1) = (i : Int) + 1 := IntWalk.i64_in _ (by omega)
    have hr : I64 ((i : Int) + 1) := ⟨by omega, by omega⟩
    simp -dsimp [go_sem, g1, i2, hq, c0, c1, c2, c3, c4, c5, c6, c7, c8, c9, e1]
    generalize hW : w7.alloc _ = w8
    obtain ⟨X8, k8, z8⟩ := alloc1s hW
    clear hW
    have T8 := T7.keep k8
    try have X8c := blk_cell X8; have X8f := blk_free X8; have X8l := blk_lt X8
    try simp -dsimp [go_sem, X8c, X8f, X8l, e1]
    refine (state_Apply _ b m (ownS l i) hfi (hown.good.names (by omega)) x.e hok.1 ((i : Int) + 1) hr xa xc w8 T8.st).mono ?_
    rintro _ w9 ⟨gv, rfl, -, h9, s9, -⟩
    refine ret_intro ?_
    have T9 := T8.left s9 h9
    have hbw := T8.st.size_b
    have X9 := s9.blk X8 (fun q => by have := T7.st.size_b; omega)
    clear X8c X8f X8l
    have X9c := blk_cell X9; have X9f := blk_free X9; have X9l := blk_lt X9
    simp -dsimp [go_sem, X9c, X9f, X9l, e1]
    refine (ref_Apply _ rc u (ownS l i) (2 * i) hown.good (by omega) x.e hok.1 hfx.1 hfx.2 ((i : Int) + 1) hr xa xc w9 T9.rt).mono ?_
    rintro _ w10 ⟨gv', u', rfl, -, h10, s10, -, hu10⟩
    refine ret_intro ?_
    have l3 := k7.size
    have l9 := s9.size
    have T10 := T9.right (by omega) s10 h10 hu10
    rw [← hdn] at T10
    have hb1 := T7.bb
    have hb2 := T7.bm
    have hb3 := T7.bc
    have hb4 := T7.bu
    have kA : Keep w4 w9 := Step.keep (Keep.trans k7 k8) s9 (fun j q => by omega)
    have kB : Keep w4 w10 := Step.keep kA s10 (fun j q => q.elim (fun q => by omega) (fun q => hb4 j q))
    simp -dsimp [go_sem]
    try simp -dsimp (disch := omega) only [IntWalk.i64_in, IntWalk.u64_in, IntWalk.u8_in]
    exact back_intro (i + 1) (by simp -dsimp [go_sem]) (by simp -dsimp [go_sem]) ⟨by omega, kB, u', T10⟩ (by omega)
  obtain rfl : i = l.length := by omega
  have hrd := rd_ok hown (by omega)
  generalize ownS l l.length = s at hown T7 hrd
  have hn := hl30
  generalize l.length = n at hown hn
  have hg2 : Good (2 * n) s := hown.good
  have hnd := hown.rf.nodup (hg2.fine (by omega)).d
  simp -dsimp [go_sem, Nat.lt_irrefl]
  refine (image_Put _ b m s (2 * n) hg2 (by omega) w7 T7.st).mono ?_; rintro _ w8 ⟨pu, rfl, o8, k8, b8⟩; refine ret_intro ?_
  obtain ⟨pa, pc, rfl, -⟩ := o8.slice
  have T8 := T7.keep k8
  simp -dsimp [go_sem]
  refine (image_Of (fun _ => False) _ s (2 * n) hg2 (by omega) hown.tr hnd hrd w8 ((o8.all flat_word (Y := fun _ => False)).sl (fun _ _ q => q))).mono ?_; rintro _ w9 ⟨tb, tm, rfl, t9, k9, htb, htm⟩; refine ret_intro ?_
  have T9 := T8.keep k9
  simp -dsimp [go_sem]
  refine (law_Alike _ _ tb tm rc u s s _ _ hg2 (by omega) hg2 (by omega) w9 t9 T9.rt).mono ?_; rintro _ w10 ⟨rfl, k10⟩; refine ret_intro ?_
  have T10 := T9.keep k10
  rw [decide_eq_true ⟨rfl, rfl⟩]
  simp -dsimp [go_sem]
  refine (image_Need _ b m s (2 * n) hg2 (by omega) w10 T10.st).mono ?_; rintro _ w11 ⟨rfl, k11⟩; refine ret_intro ?_
  have hil := imageW_len s
  simp -dsimp [go_sem, hil]
  have k411 : Keep w4 w11 := Keep.trans k7 (Keep.trans k8 (Keep.trans k9 (Keep.trans k10 k11)))
  have o11 := ((o8.keep k9).keep k10).keep k11
  by_cases y1 : i0 < 0
  · simp -dsimp [go_sem, y1]
    exact Keep.trans k04 k411
  obtain ⟨j, rfl⟩ := Int.eq_ofNat_of_zero_le (by omega : 0 ≤ i0)
  by_cases y2 : j < (imageW s).length
  rotate_left
  · have y3 : (imageW s).length ≤ j := by omega
    have y4 : ((imageW s).length : Int) ≤ j := by omega
    simp -dsimp [go_sem, y1, y2, y3, y4]
    exact Keep.trans k04 k411
  have y3 : ¬ (imageW s).length ≤ j := by omega
  have y4 : ¬ ((imageW s).length : Int) ≤ j := by omega
  have y5 : (j : Int) < (imageW s).length := by omega
  have hyy : (imageW s)[j]? = some (imageW s)[j] := List.getElem?_eq_getElem _
  generalize (imageW s)[j] = y at hyy
  obtain ⟨gb, off, c', e, hgl, hgo, hgc, hgf, hset⟩ := o11.word_at hyy
  cases e
  by_cases y6 : y = x0
  · subst y6
    simp -dsimp [go_sem, y1, y2, y3, y4, y5, hgl, hgc]
    exact Keep.trans k04 k411
  have y7 : ¬ (y.toNat : Int) = x0.toNat := fun q => y6 (UInt64.toNat_inj.1 (by omega))
  have y8 : ¬ y.toNat = x0.toNat := fun q => y6 (UInt64.toNat_inj.1 q)
  simp -dsimp [go_sem, y1, y2, y3, y4, y5, y7, y8, hgl, hgc, hgf]
  have o12 := hset x0
  have s12 : Step (fun k => k = gb) w11 (w11.setCell ⟨gb, off + j, none⟩ (.int .u64 x0.toNat)) := (Step.refl (fun k => k = gb) w11).set (p := ⟨gb, off + j, none⟩) (.inl rfl) _
  generalize w11.setCell ⟨gb, off + j, none⟩ (.int .u64 x0.toNat) = w12 at o12 s12 ⊢
  have hbl : (bodyW s).length ≤ 2 ^ 40 := by
    have := nodesW_le hg2 (by omega) s.L.length
    rw [List.take_length] at this
    unfold bodyW
    simp only [List.length_cons]
    omega
  obtain ⟨d', t, e1, e2, e3⟩ := spoilt (bodyW s) j y x0 hyy y6
  rw [show (imageW s).set j x0 = d' ++ [t] from e1] at o12
  have hgb := b8 gb hgo
  have l47 := k7.size
  refine (image_Of_bad (fun _ => False) _ d' t (by rw [e2]; exact hbl) e3 w12 ((o12.all flat_word (Y := fun _ => False)).sl (fun _ _ q => q))).mono ?_
  rintro _ w13 ⟨rfl, k13⟩
  refine ret_intro ?_
  simp -dsimp [go_sem]
  exact Keep.trans (Step.keep (Keep.trans k04 k411) s12 (fun j q => by omega)) k13
end Go.Proofs.YtdfjfagljngciaaGreat
namespace Go.Proofs.YtdfjfagljngciaaGreat
open Go.ChangeShapes Go.WideShapes Go.ChangeAt Go.RowKit Go.Joins Go.Deep

/-- A slice that is an argument takes no more bytes than any memory has. -/
theorem sl_sized {α H : Type} [Inhabited α] {r : Rep α} {P : Program} {enc : TypeId × Value → H} {W : World} {ts : List TypeId} {ds : List (DataW H)} {j : Nat} {t e : TypeId} {v : Value} {d : DataW H} {p : List MemPlace} (hu : P.underlying t = some (.slice e)) (hc : P.cellsOf e = r.n) (ho : Opens enc P W r e) {base : Nat}
    (hval : Value.okWide P W .any base t v) (h : DataW.Trod enc P W 0 (fun _ => true) true t v d p) (hz : (DataW.weightsEach P ts ds).all (· ≤ reachBytes) = true) (ht : ts[j]? = some t) (hd : ds[j]? = some d) : ∃ l, Sl r (fun _ => False) W v l ∧ l.length * P.bytesOf e ≤ reachBytes := by
  obtain ⟨l, hl⟩ := open_sl hu hc ho hval h
  refine ⟨l, hl, ?_⟩
  obtain ⟨fuel, hf⟩ := h
  obtain ⟨a0, c0, rfl, -⟩ := hl
  rcases open_slice hu hf with ⟨hcs, hx⟩ | ⟨a, len', cap', m, k, D, Pl, hcs, hb, hle, hm, hmm, hx, hcell⟩
  · simp only [Value.cells, List.cons.injEq, and_true, Value.slice.injEq] at hcs
    rw [hcs.2.1]; simp
  · simp only [Value.cells, List.cons.injEq, and_true, Value.slice.injEq] at hcs
    simp only [Prod.mk.injEq] at hx
    rw [hx.1] at hd
    have := sized_slice hz ht hd hu
    simp only [List.length_map, List.length_range] at this
    refine Nat.le_trans (Nat.mul_le_mul_right _ ?_) this
    omega
set_option maxRecDepth 100000 in
theorem imageBack_lifted (os : Os) (started : os.Started) (H : Type) (enc : TypeId × Value → H) :
    ReturnsInHanded {} Tryz.checked os 6 .any (Rows.imageBackSpec.pre6 enc Tryz.prog Tryz.f6 Rows.imageBackRow.domain false) (Rows.imageBackSpec.post enc Tryz.prog Tryz.f6 false true false false) := by
  refine returnsInHanded_of_change_sized (C := Tryz.checked) Tryz.own started (by kernel_rfl) Tryz.func6
    (ChangeSpec.witness6 (enc := enc) (C := Tryz.checked) false ⟨#[], #[.slice none 0 0, .int .i64 0, .int .u64 0], []⟩ 8 (by kernel_rfl) (by kernel_rfl) (by kernel_rfl) (by kernel_rfl)) ?_
  intro W base args ds gs before hval0 hW hcnd hz _
  have hval : ∀ (j : Nat) t v, Tryz.f6.params[j]? = some t → args[j]? = some v → Value.okWide Tryz.prog W .any base t v := hval0
  have hW' := hW
  obtain ⟨p, q, hA0, hV, rfl, hfz, hnd⟩ := hW
  have hA : DataW.TrodAll enc Tryz.prog W 0 (fun _ => true) true Tryz.f6.params.toList args.toList ds p := hA0
  rw [Tryz.params6] at hA hval hz
  obtain ⟨v0, v1, v2, d0, d1, d2, p0, p1, p2, rfl, rfl, rfl, h0, h1, h2⟩ := trodAll_three hA
  obtain ⟨rfl, rfl⟩ := trodVars_none hV
  obtain ⟨l, hl, hlz⟩ := sl_sized Tryz.underlying22 (by kernel_rfl) opens_Deed16 (hval 0 22 v0 rfl rfl) h0 hz (j := 0) rfl rfl
  obtain ⟨i, rfl, rfl, rfl, -⟩ := open_int Tryz.underlying3 (hval 1 3 v1 rfl rfl) h1
  obtain ⟨n, rfl, rfl, rfl, gn⟩ := open_int Tryz.underlying66 (hval 2 66 v2 rfl rfl) h2
  obtain ⟨y, rfl⟩ : ∃ y : UInt64, n = (y.toNat : Int) := by
    simp [Lit.wf, IntKind.min, IntKind.max, IntKind.signed, IntKind.bits] at gn
    refine ⟨UInt64.ofNat n.toNat, ?_⟩
    rw [UInt64.toNat_ofNat', Nat.mod_eq_of_lt (by omega)]
    omega
  have hb : Tryz.prog.bytesOf 27 = 112 := by kernel_rfl
  rw [hb] at hlz
  refine (image_back_law v0 l i y W hl hlz).mono fun e W' ⟨he, hk⟩ => ?_
  subst he
  exact ⟨_, rfl, post_keep Tryz.laidOut (by kernel_rfl) rfl hW' rfl rfl Tryz.underlying4 hk.below⟩

theorem imageBack_holds : Rows.ImageBackSaid :=
  OpenClaim.holds_of_wide 6 Tryz.f6 rfl rfl rfl rfl rfl rfl rfl ⟨rfl, rfl, rfl, rfl, rfl⟩ rfl rfl rfl rfl rfl (by kernel_rfl) Tryz.func6 (by kernel_rfl)
    (of_decide_eq_true (by kernel_rfl)) (by unfold Func.isWrapper; rw [if_neg (by decide +kernel)]; exact ⟨rfl, rfl⟩)
    (fun os started H enc _ => imageBack_lifted os started H enc)
#print axioms imageBack_holds
end Go.Proofs.YtdfjfagljngciaaGreat
