/- A link that is taken away again, and a name that comes back tu its place, leave all as it was. -/
import Derived.Test.YtdfjfagljngciaaGreatDoorBkp
import Derived.Test.YtdfjfagljngciaaGreatDoorAlk
import Derived.Test.YtdfjfagljngciaaGreatDoorAw
import Derived.Test.YtdfjfagljngciaaGreatDoorFnr
set_option linter.all false
set_option maxRecDepth 100000
set_option maxHeartbeats 4000000
namespace Go.Proofs.YtdfjfagljngciaaGreatDoor
open Go.RowKit Rx Go.MapKept

theorem law_names (X : Nat → Prop) (b : Nat) (v : Value) (s : St) (dir : Int) (hl : s.L.length ≤ 2 ^ 40) (w : World) (h : RAt w X b v s) :
    Calls Tryz.prog 14 #[.pointer (some ⟨b, 0, none⟩), .int .i64 dir] w fun r w' => ∃ p, r = .returned p ∧ Sl rEntry (fun _ => False) w' p (dirN s dir).names ∧ Keep w w' := by
  unfold dirN
  refine calls_rx h14 Tryz.func14 rfl Tryz.mixed (by kernel_rfl) Tryz.results14 ?_
  simp -dsimp [go_sem]
  refine (ref_At X b v s dir hl w h).mono ?_; rintro _ w1 ⟨rfl, k1⟩; refine ret_intro ?_
  have h1 := h.keep k1
  have H1 := h1.hb
  rcases at_cases s.L dir with ⟨e1, e2⟩ | ⟨i, x, e1, e2, e3⟩
  · rw [e1, e2]
    simp -dsimp [go_sem]
    exact ⟨Sl.nil _ _ _, k1⟩
  · rw [e1, e3]
    have hi := (List.getElem?_eq_some_iff.1 e2).1
    obtain ⟨g, off, c', p, m, rfl, hg, hgo, hok, hp, hm, c0, c1, c2, c3, c4, c5, c6, hf, -⟩ := h1.ho.node h.xv e2
    have i2 : (i : Int) < s.L.length := by omega
    have i3 : ¬ (i : Int) < 0 := by omega
    have i4 : (0 : Int) ≤ i := by omega
    obtain ⟨ma, mc, rfl, -⟩ := id hm
    have H1c := blk_cell H1; have H1f := blk_free H1; have H1l := blk_lt H1
    simp -dsimp [go_sem, H1c, H1f, H1l, hg, hi, i2, i3, i4, c0, c1, c2, c3, c4, c5, c6]
    exact ⟨hm.mono (fun _ _ q => q.elim), k1⟩
theorem two_new {w w1 w2 : World} {b m c : Nat} {u : Value} (h1 : StAt w1 (fun k => False ∨ k = b ∨ k = m) b m st0) (h2 : RAt w2 (fun k => (k = b ∨ k = m) ∨ k = c ∨ ownB u = some k) c u st0) (k1 : Keep w w1) (k2 : Keep w1 w2) (hb1 : w.heap.size ≤ b) (hm1 : w.heap.size ≤ m) (hc2 : w1.heap.size ≤ c) (hu2 : ∀ g, ownB u = some g → w1.heap.size ≤ g) : Two w2 w.heap.size b m c u st0 st0 := by
  have hbm := h1.size_b
  have hu2' := h2.xl
  have l1 := k1.size
  refine ⟨h1.stepY k2 (fun _ q => q.elim) id id (fun k hk q => ?_) (fun k q => hu2' k ?_) (.inl rfl) (.inr (.inl rfl)), h2.mono (.inr (.inr (.inl rfl))) (fun g q => .inr (.inr (.inr q))) (fun k q => ?_), hb1, hm1, by omega, fun g q => by have := hu2 g q; omega, by omega, by omega, fun g q => by have := hu2 g q; omega⟩
  · rcases q with q | q | q | q
    · exact .inr (.inl q)
    · exact .inr (.inr q)
    · omega
    · have := hu2 k q; omega
  · rcases q with q | q | q | q
    · exact .inl (.inl q)
    · exact .inl (.inr q)
    · exact .inr (.inl q)
    · exact .inr (.inr q)
  · rcases q with q | q | q | q
    · exact .inl (.inl q)
    · exact .inl (.inr q)
    · exact .inr (.inl q)
    · exact .inr (.inr q)
@[go_sem] def hSb : Rx.Hints := { loops := [(7, ⟨[43], [4, 5, 7, 8, 41, 42]⟩)], plans := [(12, .take 0 (.take 1 (.alt 2 (.act 3 (.act 4 (.fin 5 .done))) (.act 3 (.act 2 (.act 4 (.fin 5 .done))))))), (21, .take 0 (.take 1 (.take 2 (.take 4 (.take 5 (.act 3 (.act 6 (.take 7 (.take 8 (.take 9 (.take 10 (.take 11 .done))))))))))))], blanks := [(28, .take 0 (.take 1 (.take 2 (.take 3 (.take 4 (.take 5 (.take 6 (.take 7 (.take 8 (.act 9 (.act 10 (.act 11 (.act 12 (.act 13 (.fin 14 (.fin 15 .done))))))))))))))))], joins := [(14, ⟨[], [5, 7, 8]⟩)], rjoins := [(12, ⟨[11, 12], [5, 7, 8]⟩)] }
theorem state_back_law (M : Int) (v : Value) (l : List Deed16) (e1 e2 : Effect) (cs1 cs2 : List Value) (w : World) (hm : w.cell? ⟨0, 0, none⟩ = some (.int .i64 M)) (hl : Sl rDeed16 (fun _ => False) w v l) (hd1 : rEffect.R (fun _ => False) w e1 cs1) (hd2 : rEffect.R (fun _ => False) w e2 cs2) (hlen : l.length * 112 ≤ 140737488351232) :
    Calls Tryz.prog 3 #[v, .agg cs1.toArray, .agg cs2.toArray] w fun r w' => r = .returned (.bool true) ∧ Keep w w' := by
  obtain ⟨dd1, rfl, hdd1, hok1⟩ := id hd1
  obtain ⟨da1, dc1, rfl, -⟩ := id hdd1
  obtain ⟨dd2, rfl, hdd2, hok2⟩ := id hd2
  obtain ⟨da2, dc2, rfl, -⟩ := id hdd2
  obtain ⟨a, c, rfl, -⟩ := id hl
  refine calls_rx hSb Tryz.func3 rfl Tryz.mixed (by kernel_rfl) Tryz.results3 ?_
  unfold Effect.enc
  simp -dsimp [go_sem]
  generalize hW : (w.alloc _).alloc _ = W
  obtain ⟨D1, D2, k0, z0⟩ := alloc2 hW
  clear hW
  refine (awake16 M W (k0.cell hm (fun q => q))).mono ?_; rintro _ w1 ⟨rfl, k1⟩; refine ret_intro ?_
  have k01 := Keep.trans k0 k1
  replace D1 := Step.blk k1 D1 (fun q => q); replace D2 := Step.blk k1 D2 (fun q => q)
  simp -dsimp [go_sem]
  refine (few16 _ l w1 (hl.keep k01) (by omega)).mono ?_
  rintro _ w2 ⟨bf, rfl, hbf, k2⟩
  refine ret_intro ?_
  have k02 := Keep.trans k01 k2
  replace D1 := Step.blk k2 D1 (fun q => q); replace D2 := Step.blk k2 D2 (fun q => q)
  cases bf
  · simp -dsimp [go_sem]
    exact k02
  obtain ⟨hl30, hlf⟩ := hbf rfl
  have D1c := blk_cell D1; have D1f := blk_free D1; have D1l := blk_lt D1; have D2c := blk_cell D2; have D2f := blk_free D2; have D2l := blk_lt D2
  simp -dsimp [go_sem, D1c, D1f, D1l, D2c, D2f, D2l]
  generalize hW : w2.alloc _ = w3
  obtain ⟨X3, k3, z3⟩ := alloc1s hW
  clear hW
  have k03 := Keep.trans k02 k3
  have r1 : rDeed16.R (fun _ => False) w3 ⟨e1, 0⟩ (Deed16.enc ⟨e1, 0⟩ (.slice da1 e1.data.length dc1)) := ⟨_, rfl, hdd1.keep k03, hok1, by simp [I64]⟩
  have r2 : rDeed16.R (fun _ => False) w3 ⟨e2, 0⟩ (Deed16.enc ⟨e2, 0⟩ (.slice da2 e2.data.length dc2)) := ⟨_, rfl, hdd2.keep k03, hok2, by simp [I64]⟩
  refine (few16 _ [⟨e1, 0⟩, ⟨e2, 0⟩] w3 (Sl.of_blk (r := rDeed16) X3 id (Cs.cons r1 (Cs.one r2)) rfl (by show 2 ≤ maxLen; unfold maxLen; omega)) (by simp)).mono ?_
  rintro _ w4 ⟨bf, rfl, hbf2, k4⟩
  refine ret_intro ?_
  have k04 := Keep.trans k03 k4
  replace D1 := Step.blk k3 D1 (fun q => q); replace D2 := Step.blk k3 D2 (fun q => q)
  replace D1 := Step.blk k4 D1 (fun q => q); replace D2 := Step.blk k4 D2 (fun q => q)
  cases bf
  · simp -dsimp [go_sem]
    exact k04
  obtain ⟨-, hff⟩ := hbf2 rfl
  have hf1 := few_sizes (hff ⟨e1, 0⟩ (by simp))
  have hf2 := few_sizes (hff ⟨e2, 0⟩ (by simp))
  simp only at hf1 hf2
  clear D1c D1f D1l D2c D2f D2l
  simp -dsimp [go_sem]
  refine (state_New (fun _ => False) w4 (fun _ q => q.elim)).mono ?_; rintro _ w5 ⟨b, m, rfl, h5, k5, hb5, hm5⟩; refine ret_intro ?_
  simp -dsimp [go_sem]
  have hbm := h5.size_b
  refine (ref_New (fun k => k = b ∨ k = m) w5 (fun k q => by rcases q with rfl | rfl; exact hbm.1; exact hbm.2.1)).mono ?_; rintro _ w6 ⟨rc, u, rfl, h6, k6, hc6, hu6⟩; refine ret_intro ?_
  have T6 := two_new h5 h6 k5 k6 hb5 hm5 hc6 hu6
  clear h5 h6 hc6 hu6
  have k46 := Keep.trans k5 k6
  have l4 := k04.size
  have lD4 := k46.size
  have lD1 := blk_lt D2
  simp -dsimp [go_sem]
  have hl' : Sl rDeed16 (fun k => w4.heap.size ≤ k) w4 (.slice a l.length c) l := (hl.keep k04).mono (fun k hk q => by omega)
  refine loop_intro (σ := Nat) (fun i => [.int .i64 i]) (fun i w' => i ≤ l.length ∧ Keep w4 w' ∧ ∃ u, Two w' w4.heap.size b m rc u (ownS l i) (ownS l i)) (fun i => l.length - i) 0 (by simp -dsimp [go_sem]; rfl) (by simp -dsimp [go_sem]) ⟨Nat.zero_le _, k46, u, by rw [ownS_zero]; exact T6⟩ ?_
  clear T6
  rintro i w7 ⟨hi, k7, u, T7⟩
  have hown := ownR_own l i hi (by omega)
  simp -dsimp [go_sem]
  by_cases g1 : i < l.length
  · have hx : l[i]? = some l[i] := List.getElem?_eq_getElem _
    generalize l[i] = x at hx
    obtain ⟨q, off, c', dx, e, hq, -, hok, hdx, c0, c1, c2, c3, c4, c5, c6, c7, c8, c9⟩ := (hl'.keep k7).deed16 hx
    cases e
    obtain ⟨xa, xc, rfl, -⟩ := id hdx
    have i2 : (i : Int) < l.length := by omega
    have hdn := ownS_next hx
    have hfi := hown.good.fine (by omega)
    have hfx := few_sizes (hlf x (List.mem_of_getElem? hx))
    have e1 : IntKind.i64.wrap ((i : Int) + 1) = (i : Int) + 1 := IntWalk.i64_in _ (by omega)
    have hr : I64 ((i : Int) + 1) := ⟨by omega, by omega⟩
    simp -dsimp [go_sem, g1, i2, hq, c0, c1, c2, c3, c4, c5, c6, c7, c8, c9, e1]
    generalize hW : w7.alloc _ = w8
    obtain ⟨X8, k8, z8⟩ := alloc1s hW
    clear hW
    have T8 := T7.keep k8
    try have X8c := blk_cell X8; have X8f := blk_free X8; have X8l := blk_lt X8
    try simp -dsimp [go_sem, X8c, X8f, X8l, e1]
    refine (state_Apply _ b m (ownS l i) hfi (hown.good.names (by omega)) x.e hok.1 ((i : Int) + 1) hr xa xc w8 T8.st).mono ?_
    rintro _ w9 ⟨gv, rfl, -, h9, s9, -⟩
    refine ret_intro ?_
    have T9 := T8.left s9 h9
    have hbw := T8.st.size_b
    have X9 := s9.blk X8 (fun q => by have := T7.st.size_b; omega)
    clear X8c X8f X8l
    have X9c := blk_cell X9; have X9f := blk_free X9; have X9l := blk_lt X9
    simp -dsimp [go_sem, X9c, X9f, X9l, e1]
    refine (ref_Apply _ rc u (ownS l i) (2 * i) hown.good (by omega) x.e hok.1 hfx.1 hfx.2 ((i : Int) + 1) hr xa xc w9 T9.rt).mono ?_
    rintro _ w10 ⟨gv', u', rfl, -, h10, s10, -, hu10⟩
    refine ret_intro ?_
    have l3 := k7.size
    have l9 := s9.size
    have T10 := T9.right (by omega) s10 h10 hu10
    rw [← hdn] at T10
    have hb1 := T7.bb
    have hb2 := T7.bm
    have hb3 := T7.bc
    have hb4 := T7.bu
    have kA : Keep w4 w9 := Step.keep (Keep.trans k7 k8) s9 (fun j q => by omega)
    have kB : Keep w4 w10 := Step.keep kA s10 (fun j q => q.elim (fun q => by omega) (fun q => hb4 j q))
    simp -dsimp [go_sem]
    try simp -dsimp (disch := omega) only [IntWalk.i64_in, IntWalk.u64_in, IntWalk.u8_in]
    exact back_intro (i + 1) (by simp -dsimp [go_sem]) (by simp -dsimp [go_sem]) ⟨by omega, kB, u', T10⟩ (by omega)
  obtain rfl : i = l.length := by omega
  generalize ownS l l.length = s at hown T7
  have hn := hl30
  generalize l.length = n at hown hn
  have D7 := k7.blk D1 (fun q => q)
  have F7 := k7.blk D2 (fun q => q)
  have D7c := blk_cell D7; have D7f := blk_free D7; have D7l := blk_lt D7; have F7c := blk_cell F7; have F7f := blk_free F7; have F7l := blk_lt F7
  simp -dsimp [go_sem, D7c, D7f, D7l, F7c, F7f, F7l, Nat.lt_irrefl]
  generalize hE1 : #[Value.int .i64 e1.kind, .int .i64 e1.ino, .int .i64 e1.dir, .int .i64 e1.tu, .int .i64 e1.page, .int .i64 e1.size, .string e1.name, .string e1.other, .slice da1 e1.data.length dc1] = E1
  refine join_intro (σ := Nat × Nat) (fun g => [.pointer (some ⟨g.1, 0, none⟩), .pointer (some ⟨g.2, 0, none⟩)]) (fun g w' => Keep w7 w' ∧ w7.heap.size ≤ g.1 ∧ w7.heap.size ≤ g.2 ∧ g.1 ≠ g.2 ∧ w'.heap[g.1]? = some (.cells E1 25 (0, 0)) ∧ w'.heap[g.2]? = some (.cells E1 25 (0, 0))) (by simp -dsimp [go_sem]; rfl) ?_ ?_
  · subst hE1
    simp -dsimp [go_sem, D7c, D7f, D7l, F7c, F7f, F7l]
    obtain ⟨y1, y2, ky, zy⟩ := alloc2 (w := w7) (A := .cells #[Value.int .i64 e1.kind, .int .i64 e1.ino, .int .i64 e1.dir, .int .i64 e1.tu, .int .i64 e1.page, .int .i64 e1.size, .string e1.name, .string e1.other, .slice da1 e1.data.length dc1] 25 (0, 0)) (B := .cells #[Value.int .i64 e1.kind, .int .i64 e1.ino, .int .i64 e1.dir, .int .i64 e1.tu, .int .i64 e1.page, .int .i64 e1.size, .string e1.name, .string e1.other, .slice da1 e1.data.length dc1] 25 (0, 0)) rfl
    refine ⟨?_, ?_⟩
    · (repeat (with_reducible refine And.intro (by (repeat (with_reducible first | exact Agree.refl _ | refine agree_drew ?_ | refine agree_alloc ?_ _))) ?_))
      exact meet_intro (w7.heap.size, w7.heap.size + 1) (by simp -dsimp [go_sem]) (by simp -dsimp [go_sem]) ⟨ky.drew, Nat.le_refl _, Nat.le_succ _, by simp, y1, y2⟩
    · (repeat (with_reducible refine And.intro (by (repeat (with_reducible first | exact Agree.refl _ | refine agree_drew ?_ | refine agree_alloc ?_ _))) ?_))
      exact meet_intro (w7.heap.size + 1, w7.heap.size) (by simp -dsimp [go_sem]) (by simp -dsimp [go_sem]) ⟨ky.drew, Nat.le_succ _, Nat.le_refl _, by simp, y2, y1⟩
  subst hE1
  rintro ⟨p1, p2⟩ w8 ⟨k8, lp1, lp2, hne, P1, P2⟩
  simp only at lp1 lp2 hne P1 P2
  have P1c := blk_cell P1; have P1f := blk_free P1; have P1l := blk_lt P1; have P2c := blk_cell P2; have P2f := blk_free P2; have P2l := blk_lt P2
  simp -dsimp [go_sem, P1c, P1f, P1l, P2c, P2f, P2l]
  generalize qw9 : World.setCell _ _ _ = w9; have sw9 : Step (fun k => k = p1 ∨ k = p2) w8 w9 := by (rw [← qw9]; (repeat (with_reducible refine Step.set ?_ ?_ _)); (with_reducible exact Step.refl _ _); all_goals exact .inl (by simp))
  clear P1c P1f P1l P2c P2f P2l
  have hne' : ¬ p2 = p1 := fun q => hne q.symm
  replace P1 : w9.heap[p1]? = some (.cells #[Value.int .i64 2, .int .i64 e1.ino, .int .i64 e1.dir, .int .i64 e1.tu, .int .i64 e1.page, .int .i64 e1.size, .string e1.name, .string e1.other, .slice da1 e1.data.length dc1] 25 (0, 0)) := by
    rw [← qw9]
    exact blk_eq (blk_far (blk_set P1 0 _) (by simp [hne, hne']) _) (by first | rfl | simp)
  replace P2 : w9.heap[p2]? = some (.cells #[Value.int .i64 3, .int .i64 e1.ino, .int .i64 e1.dir, .int .i64 e1.tu, .int .i64 e1.page, .int .i64 e1.size, .string e1.name, .string e1.other, .slice da1 e1.data.length dc1] 25 (0, 0)) := by
    rw [← qw9]
    exact blk_eq (blk_set (blk_far P2 (by simp [hne, hne']) _) 0 _) (by first | rfl | simp)
  clear qw9
  have k79 : Keep w7 w9 := Step.keep k8 sw9 (fun j q => by omega)
  have T9 := T7.keep k79
  have k49 := Keep.trans k7 k79
  clear D7c D7f D7l F7c F7f F7l
  have P1c := blk_cell P1; have P1f := blk_free P1; have P1l := blk_lt P1; have P2c := blk_cell P2; have P2f := blk_free P2; have P2l := blk_lt P2
  refine join_intro (σ := Unit) (fun _ => []) (fun _ w' => Keep w4 w' ∧ Two w' w4.heap.size b m rc u s s) (by simp -dsimp [go_sem]; rfl) ?_ ?_
  · simp -dsimp [go_sem, P1c, P1f, P1l, P2c, P2f, P2l]
    have hg2 : Good (2 * n) s := hown.good
    have hfi := hg2.fine (by omega)
    have hokA : ({ e1 with kind := 2 } : Effect).ok := ⟨by simp [I64], hok1.2⟩
    have hokB : ({ e1 with kind := 3 } : Effect).ok := ⟨by simp [I64], hok1.2⟩
    have T10' := T9
    refine (state_Apply _ b m s hfi (hg2.names (by omega)) { e1 with kind := 2 } hokA 0 (by simp [I64]) da1 dc1 w9 T9.st).mono ?_
    rintro _ w10 ⟨gv, rfl, -, h10, s10, -⟩
    refine ret_intro ?_
    have T10 := T9.left s10 h10
    have lbm := T9.st.size_b
    have lb7 := T7.st.size_b
    have P10 := s10.blk P2 (fun q => by omega)
    have l7 := k7.size
    have k410 : Keep w4 w10 := Step.keep k49 s10 (fun j q => by have := T9.bb; have := T9.bm; omega)
    by_cases h0 : (applyS s { e1 with kind := 2 } 0).2.2 = 0
    rotate_left
    · have hst := stay_apply h0
      rw [hst] at T10
      simp -dsimp [go_sem, h0]
      exact meet_intro () (by simp -dsimp [go_sem]) (by simp -dsimp [go_sem]) ⟨k410, T10⟩
    have hbo := back_one hown (by omega) e1 h0
    have hgt := good_apply hg2 (by omega) { e1 with kind := 2 } 0
    rw [h0]
    generalize (applyS s { e1 with kind := 2 } 0).1 = t at T10 hbo hgt
    clear P1c P1f P1l P2c P2f P2l
    have P10c := blk_cell P10; have P10f := blk_free P10; have P10l := blk_lt P10
    simp -dsimp [go_sem, P10c, P10f, P10l]
    refine (state_Apply _ b m t (hgt.fine (by omega)) (hgt.names (by omega)) { e1 with kind := 3 } hokB 0 (by simp [I64]) da1 dc1 w10 T10.st).mono ?_
    rintro _ w11 ⟨gv2, rfl, -, h11, s11, -⟩
    refine ret_intro ?_
    rw [hbo] at h11 ⊢
    have T11 := T10.left s11 h11
    have k411 : Keep w4 w11 := Step.keep k410 s11 (fun j q => by have := T9.bb; have := T9.bm; omega)
    simp -dsimp [go_sem]
    refine (law_Alike _ _ b m rc u s s _ _ hg2 (by omega) hg2 (by omega) w11 T11.st T11.rt).mono ?_; rintro _ w12 ⟨rfl, k12⟩; refine ret_intro ?_
    simp -dsimp [go_sem]
    exact meet_intro () (by simp -dsimp [go_sem]) (by simp -dsimp [go_sem]) ⟨Keep.trans k411 k12, T11.keep k12⟩
  rintro _ w20 ⟨k20, T20⟩
  have F20 := k20.blk D2 (fun q => q)
  have F20c := blk_cell F20; have F20f := blk_free F20; have F20l := blk_lt F20
  simp -dsimp [go_sem, F20c, F20f, F20l]
  generalize hW : w20.alloc _ = w21
  obtain ⟨H21, k21, z21⟩ := alloc1s hW
  clear hW
  have T21 := T20.keep k21
  have k421 := Keep.trans k20 k21
  have kd := keep_drew w21
  have hg2 : Good (2 * n) s := hown.good
  have hl40 : s.L.length ≤ 2 ^ 40 := Nat.le_trans hg2.len (by omega)
  have F21 := k21.blk F20 (fun q => q)
  clear F20c F20f F20l
  have F21c := blk_cell F21; have F21f := blk_free F21; have F21l := blk_lt F21; have H21c := blk_cell H21; have H21f := blk_free H21; have H21l := blk_lt H21
  refine (law_names _ rc u s e2.tu hl40 w21.drew (T21.rt.keep kd)).mono ?_; rintro _ w22 ⟨np, rfl, hnp, k22⟩; refine ret_intro ?_
  have q22 := Keep.trans kd k22
  refine ⟨Keep.agree q22 (Agree.refl _), ?_⟩
  obtain ⟨na, nc, rfl, -⟩ := id hnp
  simp -dsimp [go_sem, F21c, F21f, F21l, H21c, H21f, H21l]
  refine (ref_Find _ _ (dirN s e2.tu).names e2.other w22 hnp).mono ?_; rintro _ w23 ⟨rfl, k23⟩; refine ret_intro ?_
  have q23 := Keep.trans q22 k23
  refine ⟨Keep.agree q23 (Agree.refl _), ?_⟩
  have hz := findN_zero hg2 e2.tu e2.other
  generalize hfd : findN (dirN s e2.tu).names e2.other = fd at hz
  obtain ⟨f1, f2⟩ := fd
  simp only at hz
  have k423 : Keep w4 w23 := Keep.trans k421 q23
  by_cases z : f1 = 0
  rotate_left
  · simp -dsimp [go_sem, F21c, F21f, F21l, H21c, H21f, H21l, z]
    exact Keep.trans k04 k423
  have hno : (findN (dirN s e2.tu).names e2.other).2 = false := by rw [hfd]; simp only; rw [hz]; simp [z]
  simp -dsimp [go_sem, F21c, F21f, F21l, H21c, H21f, H21l, z]
  have H23 := q23.blk H21 (fun q => q)
  clear F21c F21f F21l H21c H21f H21l
  have T23 := T21.keep q23
  have H23c := blk_cell H23; have H23f := blk_free H23; have H23l := blk_lt H23
  try simp -dsimp [go_sem, H23c, H23f, H23l]
  have hokC : ({ e2 with kind := 5 } : Effect).ok := ⟨by simp [I64], hok2.2⟩
  refine (state_Apply _ b m s (hg2.fine (by omega)) (hg2.names (by omega)) { e2 with kind := 5 } hokC 0 (by simp [I64]) da2 dc2 w23 T23.st).mono ?_
  rintro _ w24 ⟨gv, rfl, -, h24, s24, -⟩
  refine ret_intro ?_
  have T24 := T23.left s24 h24
  have l20 := k20.size
  have lb20 := T20.st.size_b
  have H24 := s24.blk H23 (fun q => by omega)
  have k424 : Keep w4 w24 := Step.keep k423 s24 (fun j q => by have := T23.bb; have := T23.bm; omega)
  by_cases h0 : (applyS s { e2 with kind := 5 } 0).2.2 = 0
  rotate_left
  · have hst := stay_apply h0
    rw [hst] at T24
    simp -dsimp [go_sem, h0]
    refine (law_Alike _ _ b m rc u s s _ _ hg2 (by omega) hg2 (by omega) w24 T24.st T24.rt).mono ?_; rintro _ w25 ⟨rfl, k25⟩; refine ret_intro ?_
    simp -dsimp [go_sem]
    exact Keep.trans k04 (Keep.trans k424 k25)
  have hbo := back_two hown (by omega) e2 hno h0
  have hgt := good_apply hg2 (by omega) { e2 with kind := 5 } 0
  rw [h0]
  generalize (applyS s { e2 with kind := 5 } 0).1 = t at T24 hbo hgt
  clear H23c H23f H23l
  have H24c := blk_cell H24; have H24f := blk_free H24; have H24l := blk_lt H24
  simp -dsimp [go_sem, H24c, H24f, H24l]
  refine blankF_intro w24 (agree_alloc (Agree.refl w24) _) ?_
  simp -dsimp [go_sem, H24c, H24f, H24l]
  (repeat (with_reducible refine And.intro (by (repeat (with_reducible first | exact Agree.refl _ | refine agree_drew ?_ | refine agree_alloc ?_ _))) ?_))
  generalize hW : (w24.alloc _).drew = w25
  have k25 : Keep w24 w25 := by rw [← hW]; exact ((Keep.refl w24).alloc _).drew
  clear hW
  have T25 := T24.keep k25
  have hokD : ({ e2 with kind := 5, dir := e2.tu, name := e2.other, tu := e2.dir, other := e2.name } : Effect).ok := by
    obtain ⟨o1, o2, o3, o4, o5, o6⟩ := hok2
    exact ⟨by simp [I64], o2, o4, o3, o5, o6⟩
  refine (state_Apply _ b m t (hgt.fine (by omega)) (hgt.names (by omega)) { e2 with kind := 5, dir := e2.tu, name := e2.other, tu := e2.dir, other := e2.name } hokD 0 (by simp [I64]) da2 dc2 w25 T25.st).mono ?_
  rintro _ w26 ⟨gv2, rfl, -, h26, s26, -⟩
  refine ret_intro ?_
  rw [hbo] at h26 ⊢
  have T26 := T25.left s26 h26
  have k426 : Keep w4 w26 := Step.keep (Keep.trans k424 k25) s26 (fun j q => by have := T23.bb; have := T23.bm; omega)
  simp -dsimp [go_sem]
  refine (law_Alike _ _ b m rc u s s _ _ hg2 (by omega) hg2 (by omega) w26 T26.st T26.rt).mono ?_; rintro _ w27 ⟨rfl, k27⟩; refine ret_intro ?_
  simp -dsimp [go_sem]
  exact Keep.trans k04 (Keep.trans k426 k27)
end Go.Proofs.YtdfjfagljngciaaGreatDoor
