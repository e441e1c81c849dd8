/- Whatever is added and goes: numbers, the first one, and the last one of any node. -/
import Derived.Test.YthchaodakfnbbaaPend
import Derived.Test.YthchaodakfnbbaaOpen
set_option linter.all false
namespace Go.Proofs.Ythchaodakfnbbaa
open Go.RowKit Rx

theorem SlAt.yes {w : World} {a : Option Addr} {l : List Bool} (h : SlAt RY 1 w a l) {i : Nat} {x : Bool} (hx : l[i]? = some x) : ∃ b off, a = some ⟨b, off, none⟩ ∧ b < w.heap.size ∧ w.cell? ⟨b, off + i, none⟩ = some (.bool x) := by
  obtain ⟨b, off, rfl, hb, hc⟩ := h (by have := (List.getElem?_eq_some_iff.1 hx).1; omega)
  obtain ⟨cs, -, rfl, h3⟩ := hc i x hx
  exact ⟨b, off, rfl, hb, by simpa using h3 0 _ rfl⟩
/-- What one holds: the list's effects, in a slice of one's own. -/
def Efs (w : World) (v : Value) (l : List Ef) : Prop := OwnS w 53 9 v l.length (l.flatMap fun x => x.enc (.slice none 0 0))

set_option maxRecDepth 100000 in
set_option maxHeartbeats 4000000 in
theorem pend_does_law (a a' : Option Addr) (l : List Eff) (pops : List Bool) (cap cap' : Nat) (ino : Int) (w : World) (hl : SlAt RE 9 w a l) (hp : SlAt RY 1 w a' pops) (hm : l.length ≤ maxLen) (hm2 : pops.length ≤ maxLen) :
    Calls Try.prog 6 #[.slice a l.length cap, .slice a' pops.length cap', .int .i64 ino] w fun e w' => e = .returned (.bool true) ∧ Keep w w' := by
  have hm' := hm
  unfold maxLen at hm' hm2
  refine calls_rx h6 Try.func6 rfl Try.mixed (by kernel_rfl) Try.results6 ?_
  simp -dsimp [go_sem]
  refine (sumplaw21_awake _).mono ?_; rintro e w1 ⟨rfl, k1⟩; refine ret_intro ?_
  simp -dsimp [go_sem]
  have hl1 := hl.keepE k1
  refine (sumplaw09_Few a l cap _ hl1 hm).mono ?_; rintro e w2 ⟨b, rfl, hb, k2⟩; refine ret_intro ?_
  have hl2 := hl1.keepE k2
  have k02 := Keep.trans k1 k2
  have hp2 := hp.keep k02 (fun _ _ q => q)
  cases b with
  | false =>
    simp -dsimp [go_sem]
    exact k02
  | true =>
    obtain ⟨hfew, -⟩ := hb rfl
    by_cases n0 : 60 < (pops.length : Int)
    · simp -dsimp [go_sem, n0]
      exact k02
    simp -dsimp [go_sem, n0]
    refine loop_intro (σ := (Value × List POne) × Nat × Nat × Nat) (fun s => [s.1.1, .int .i64 s.2.1, .int .i64 s.2.2.1, .int .i64 s.2.2.2]) (fun s w' => s.2.2.2 ≤ pops.length ∧ s.2.1 ≤ s.2.2.1 ∧ s.2.2.1 ≤ l.length ∧ s.1.2.length = s.2.2.1 - s.2.1 ∧ Keep w2 w' ∧ ∃ O, Pend.At w' O w2.heap.size s.1.2 s.2.1 ∧ Efs w' s.1.1 (s.1.2.map (·.e)) ∧ (∀ k, O k → w2.heap.size ≤ k) ∧ ∀ g, s.1.1.ownBlock = some g → w2.heap.size ≤ g ∧ ¬ O g)
      (fun s => pops.length - s.2.2.2) ((.slice none 0 0, []), 0, 0, 0) (by simp -dsimp [go_sem]; rfl) (by simp -dsimp [go_sem]) ?_ ?_
    · exact ⟨by simp, by simp, by simp, by simp, keep_alloc w2 _, _, pend_new w2, OwnS.nil _ _ _, by rintro k rfl; exact Nat.le_refl _, by simp [Value.ownBlock]⟩
    rintro ⟨⟨v, q⟩, gone, at', j⟩ w3 ⟨hj, hga, hal, hql, k3, O, h3, o3, b3, c3⟩
    simp only at hj hga hal hql h3 o3 c3
    simp -dsimp [go_sem]
    refine condF_intro (fun g1 => ?_) (fun g1 => ?_)
    · simp at g1
      have hx : pops[j]? = some pops[j] := List.getElem?_eq_getElem _
      generalize pops[j] = pop at hx
      obtain ⟨b, off, rfl, hb, c0⟩ := (hp2.keep k3 (fun _ _ q => q)).yes hx
      have i2 : (j : Int) < pops.length := by omega
      simp -dsimp [go_sem, i2, hb, c0]
      refine join_intro (σ := (Value × List POne) × Nat × Nat) (fun s => [s.1.1, .int .i64 s.2.1, .int .i64 s.2.2]) (fun s w' => s.2.1 ≤ s.2.2 ∧ s.2.2 ≤ l.length ∧ s.1.2.length = s.2.2 - s.2.1 ∧ Keep w2 w' ∧ ∃ O, Pend.At w' O w2.heap.size s.1.2 s.2.1 ∧ Efs w' s.1.1 (s.1.2.map (·.e)) ∧ (∀ k, O k → w2.heap.size ≤ k) ∧ ∀ g, s.1.1.ownBlock = some g → w2.heap.size ≤ g ∧ ¬ O g) (by simp -dsimp [go_sem]; rfl) ?_ ?_
      · cases pop with
        | true =>
          simp -dsimp [go_sem]
          refine (pend_Pop O _ _ _ _ h3 (by omega) (by omega)).mono ?_; rintro e w4 ⟨rfl, h4, k4⟩; refine ret_intro ?_
          have h4' : Pend.At w4 O w2.heap.size q.tail (if q = [] then gone else gone + 1) := h4
          cases q with
          | nil =>
            obtain ⟨va, vc, rfl, -⟩ := o3.slice
            simp -dsimp [go_sem]
            exact meet_intro ((.slice va 0 vc, []), gone, at') (by simp -dsimp [go_sem]) (by simp -dsimp [go_sem]) ⟨hga, hal, hql, k3.keep k4 b3, O, h4, o3.step k4 (fun g hg => (c3 g hg).2), b3, c3⟩
          | cons y r =>
            obtain ⟨va, vc, rfl, o5, ob, o6, o7⟩ := OwnS.cutL (i := 1) (m := (y :: r).length) (k := (y :: r).length) (fun x : Ef => x.enc (.slice none 0 0)) (fun _ => rfl) (l := (y :: r).map (·.e)) (by simpa only [Efs, List.length_map] using o3) (by simp) (Nat.le_refl _)
            have i4 : (0 : Int) < r.length + 1 := by omega
            have i5 : (1 : Int) ≤ r.length + 1 := by omega
            have i6 : ((gone : Int) + 1) = ((gone + 1 : Nat) : Int) := by omega
            have hv2 : sliced va 1 (r.length + 1) vc 9 = Value.slice (if vc = 1 then va else Option.map (fun x => x.add 9) va) r.length (vc - 1) := by simp [sliced]
            simp [Addr.add] at hv2
            simp -dsimp [go_sem, i4, i5]
            rw [← hv2]
            try simp -dsimp (disch := omega) only [IntWalk.i64_in, IntWalk.u64_in, IntWalk.u8_in]
            refine meet_intro ((sliced va 1 (r.length + 1) vc 9, r), gone + 1, at') (by simp -dsimp [go_sem]) (by simp -dsimp [go_sem]) ⟨?_, hal, ?_, k3.keep k4 b3, O, ?_, ?_, b3, ?_⟩
            · simp at hql ⊢; omega
            · simp at hql ⊢; omega
            · rw [if_neg (by simp)] at h4; rw [← i6]; exact h4
            · refine OwnS.step (w := w3) ?_ k4 ?_
              · simp only [Efs, List.length_map]
                have e1 : (((y :: r).map (fun x : POne => x.e)).drop 1).take ((y :: r).length - 1) = r.map (·.e) := by simp; exact List.take_of_length_le (by simp)
                rw [e1] at o5; exact o5
              · intro g hg; exact (c3 g (by rw [← ob, ← hg]; rfl)).2
            · intro g hg; exact c3 g (by rw [← ob, ← hg]; rfl)
        | false =>
          by_cases i3 : at' < l.length
          · have i3' : (at' : Int) < l.length := by omega
            have hx : l[at']? = some l[at'] := List.getElem?_eq_getElem _
            generalize l[at'] = x at hx
            obtain ⟨b, off, d, rfl, hb, ⟨da, dc, rfl, hd⟩, c0, c1, c2, c3', c4, c5, c6, c7, c8⟩ := (hl2.keepE k3).eff hx
            simp -dsimp [go_sem, i3, i3', hb, c0, c1, c2, c3', c4, c5, c6, c7, c8]
            try simp -dsimp (disch := omega) only [IntWalk.i64_in, IntWalk.u64_in, IntWalk.u8_in]
            refine (pend_Add O _ q gone x.e (.slice da x.data.length dc) (at' + 7) _ (h3.keep (keep_alloc _ _)) (by omega) (by omega) (by omega)).mono ?_; rintro e w4 ⟨rfl, O4, h4, k4, b4⟩; refine ret_intro ?_
            have o4 := (o3.keep (keep_alloc w3 (Obj.cells (x.e.enc (.slice da x.data.length dc)).toArray 53))).step k4 (fun g hg => (c3 g hg).2)
            have f4 := k4.blk (heap_alloc_new w3 (Obj.cells (x.e.enc (.slice da x.data.length dc)).toArray 53)) (fun q => absurd (h3.lt _ q) (by omega))
            have e4 := blk_cell f4
            have g4 := blk_free f4
            have l4 := blk_lt f4
            unfold Ef.enc at e4
            have i7 : (q.length : Int) = at' - gone := by omega
            have hw1 : IntKind.i64.wrap (IntKind.i64.wrap ((gone : Int) + q.length) + 1) = gone + q.length + 1 := by
              rw [IntWalk.i64_in ((gone : Int) + q.length) (by omega), IntWalk.i64_in _ (by omega)]
            obtain ⟨va, vc, rfl, -⟩ := o3.slice
            simp only [List.length_map] at o3 o4 c3
            simp -dsimp [go_sem, hw1, e4, g4, l4]
            have ks := (((k3.alloc (Obj.cells (x.e.enc (.slice da x.data.length dc)).toArray 53)).keep k4 b3).set (p := ⟨w3.heap.size, 8, .none⟩) (.inr k3.size) (.slice none 0 0)).alloc (Obj.cells (x.e.enc (.slice none 0 0)).toArray 53)
            have kt : Step (fun k => k = w3.heap.size) w4 ((w4.setCell ⟨w3.heap.size, 8, .none⟩ (.slice none 0 0)).alloc (Obj.cells (x.e.enc (.slice none 0 0)).toArray 53)) := ((Step.refl (fun k => k = w3.heap.size) w4).set (p := ⟨w3.heap.size, 8, .none⟩) (.inl rfl) _).alloc _
            have nO : ¬ O4 w3.heap.size := fun q => by
              rcases b4 _ q with q1 | q1
              · exact absurd (h3.lt _ q1) (by omega)
              · simp at q1; omega
            have h5 := h4.step kt (fun k hk q => nO (q ▸ hk))
            have o5 := OwnS.step o4 kt (fun g hg q => by have := o3.lt hg; omega)
            have s5 : (w4.setCell ⟨w3.heap.size, 8, .none⟩ (.slice none 0 0)).heap.size = w4.heap.size := by simp [World.setCell]
            have e5 := blk_cell (heap_alloc_new (w4.setCell ⟨w3.heap.size, 8, .none⟩ (.slice none 0 0)) (Obj.cells (x.e.enc (.slice none 0 0)).toArray 53))
            rw [s5] at e5
            refine app_at (w := (w4.setCell ⟨w3.heap.size, 8, .none⟩ (.slice none 0 0)).alloc (Obj.cells (x.e.enc (.slice none 0 0)).toArray 53)) 9 104 Try.underlying44 (by kernel_rfl) (by simpa only [List.length_map] using o5) (m := 1) (x.e.enc (.slice none 0 0)) rfl (fun j u hu => by rw [Addr.add_mid, e5]; simpa using hu) (by simp [Ef.enc, Value.oneCell']) (by unfold maxLen; omega) (by omega) ?_
            intro v6 w6 o6 k6 b6
            generalize hw5 : (w4.setCell ⟨w3.heap.size, 8, .none⟩ (.slice none 0 0)).alloc (Obj.cells (x.e.enc (.slice none 0 0)).toArray 53) = w5 at ks kt h5 o5 k6 b6
            simp -dsimp [go_sem]
            try simp -dsimp (disch := omega) only [IntWalk.i64_in, IntWalk.u64_in, IntWalk.u8_in]
            have dis : ∀ g, (Value.slice va q.length vc).ownBlock = some g → ¬ O4 g := fun g hg q1 => by
              rcases b4 _ q1 with q2 | q2
              · exact (c3 g hg).2 q2
              · have := o3.lt hg; simp at q2; omega
            refine meet_intro ((v6, q ++ [⟨x.e, at' + 7⟩]), gone, at' + 1) (by simp -dsimp [go_sem]) (by simp -dsimp [go_sem]) ⟨by show gone ≤ at' + 1; omega, by show at' + 1 ≤ l.length; omega, by show (q ++ [_]).length = at' + 1 - gone; simp; omega, ks.keep k6 (fun g hg => (c3 g hg).1), O4, h5.step k6 (fun k hk hg => dis k hg hk), ?_, ?_, ?_⟩
            · simp only [Efs, List.map_append, List.length_append, List.length_map, List.flatMap_append]
              simpa using o6
            · intro k hk
              rcases b4 _ hk with q2 | q2
              · exact b3 k q2
              · simp at q2; exact Nat.le_trans k3.size (by omega)
            · intro g hg
              rcases b6 g hg with q1 | q1
              · exact ⟨(c3 g q1).1, dis g q1⟩
              · refine ⟨Nat.le_trans ks.size q1, fun q2 => ?_⟩
                have := h4.lt _ q2
                have := kt.size
                omega
          · have i3' : ¬ (at' : Int) < l.length := by omega
            simp -dsimp [go_sem, i3, i3']
            exact meet_intro ((v, q), gone, at') (by simp -dsimp [go_sem]) (by simp -dsimp [go_sem]) ⟨hga, hal, hql, k3, O, h3, o3, b3, c3⟩
      · rintro ⟨⟨v, q⟩, gone, at'⟩ w4 ⟨hga, hal, hql, k4, O, h4, o4, b4, c4⟩
        simp only at hga hal hql h4 o4 c4
        obtain ⟨va, vc, rfl, -, -, hcell⟩ := o4.slice
        simp only [List.length_map] at hcell ⊢
        simp -dsimp [go_sem]
        refine loop_intro (σ := Nat) (fun i => [.int .i64 (lastN (q.map (·.e)) ino gone i), .int .i64 i]) (fun i w' => i ≤ q.length ∧ Keep w4 w') (fun i => q.length - i) 0 (by simp -dsimp [go_sem]; rfl) (by simp -dsimp [go_sem, lastN]) ⟨by simp, Keep.refl w4⟩ ?_
        rintro i w5 ⟨hi, k5⟩
        simp -dsimp [go_sem]
        refine condF_intro (fun g2 => ?_) (fun g2 => ?_)
        · simp at g2
          have hwi : IntKind.i64.wrap ((i : Int) + 1) = i + 1 := IntWalk.i64_in _ (by omega)
          have hy : q[i]? = some q[i] := List.getElem?_eq_getElem _
          generalize q[i] = y at hy
          obtain ⟨g, off2, rfl, hb2, -, hc2, -⟩ := hcell (by omega)
          have hc3 : ∀ j u, j < 9 → (y.e.enc (.slice none 0 0))[j]? = some u → w5.cell? ⟨g, off2 + i * 9 + j, .none⟩ = some u := fun j u hj hu => k5.cell (by
            rw [Nat.add_assoc]
            exact hc2 _ _ (by rw [rows_at (fun x : Ef => x.enc (.slice none 0 0)) 9 (fun _ => rfl) (by omega) _ _ _ hj, List.getElem?_map, hy]; exact hu)) (fun q => q)
          obtain ⟨c0, c1, c2, c3', c4', c5, c6, c7, c8⟩ := And.intro (hc3 0 _ (by omega) rfl) (And.intro (hc3 1 _ (by omega) rfl) (And.intro (hc3 2 _ (by omega) rfl) (And.intro (hc3 3 _ (by omega) rfl) (And.intro (hc3 4 _ (by omega) rfl) (And.intro (hc3 5 _ (by omega) rfl) (And.intro (hc3 6 _ (by omega) rfl) (And.intro (hc3 7 _ (by omega) rfl) (hc3 8 _ (by omega) rfl))))))))
          rw [Nat.add_zero] at c0
          have hb3 := k5.lt hb2
          have i2 : (i : Int) < q.length := by omega
          have hle : lastN (q.map (·.e)) ino gone (i + 1) = if y.e.ino = ino then (gone : Int) + i + 1 else lastN (q.map (·.e)) ino gone i := by
            rw [lastN]; simp [hy]
          by_cases hyi : y.e.ino = ino
          · rw [if_pos hyi] at hle
            simp -dsimp [go_sem, i2, hb3, c0, c1, c2, c3', c4', c5, c6, c7, c8, hyi]
            try simp -dsimp (disch := omega) only [IntWalk.i64_in, IntWalk.u64_in, IntWalk.u8_in]
            exact back_intro (i + 1) (by simp -dsimp [go_sem, hle]) (by simp -dsimp [go_sem]) ⟨by omega, k5.alloc _⟩ (by omega)
          · rw [if_neg hyi] at hle
            simp -dsimp [go_sem, i2, hb3, c0, c1, c2, c3', c4', c5, c6, c7, c8, hyi]
            try simp -dsimp (disch := omega) only [IntWalk.i64_in, IntWalk.u64_in, IntWalk.u8_in]
            exact back_intro (i + 1) (by simp -dsimp [go_sem, hle, hwi]) (by simp -dsimp [go_sem]) ⟨by omega, k5.alloc _⟩ (by omega)
        · simp at g2
          obtain rfl : i = q.length := by omega
          simp -dsimp [go_sem]
          refine (pend_Head _ _ _ _ _ (h4.keep k5)).mono ?_; rintro e w6 ⟨rfl, k6⟩; refine ret_intro ?_
          have h6 := (h4.keep k5).keep k6
          have k46 := Keep.trans k5 k6
          cases q with
          | nil =>
            unfold Ef.val Ef.enc
            simp -dsimp [go_sem]
            have h7 := h6.keep (keep_alloc w6 (Obj.cells ((default : POne).e.enc (.slice none 0 0)).toArray 53))
            have k7 := Step.alloc k46 (Obj.cells ((default : POne).e.enc (.slice none 0 0)).toArray 53)
            unfold Ef.enc at h7 k7
            generalize w6.alloc _ = w7 at h7 k7 ⊢
            refine ⟨agree_drew (Agree.refl _), ?_⟩
            have hn1 : IntKind.i64.wrap (IntKind.i64.wrap (gone : Int) + 1) = gone + 1 := by rw [IntWalk.i64_in (gone : Int) (by omega), IntWalk.i64_in _ (by omega)]
            have h8 := h7.keep (keep_drew _)
            have k78 := keep_drew w7
            refine (pend_Len _ _ _ _ _ h8).mono ?_; rintro e w8 ⟨rfl, rfl⟩; refine ret_intro ?_
            simp -dsimp [go_sem]
            refine ⟨Keep.agree k78 (Agree.refl _), ?_⟩
            refine (pend_Gone _ _ _ _ _ h8).mono ?_; rintro e w9 ⟨rfl, rfl⟩; refine ret_intro ?_
            simp -dsimp [go_sem]
            refine ⟨Keep.agree k78 (Agree.refl _), ?_⟩
            refine (pend_Next _ _ _ _ _ h8 (by omega) (by simp only [List.length_cons, List.length_nil]; omega)).mono ?_; rintro e w9 ⟨rfl, k9⟩; refine ret_intro ?_
            have h9 := h8.keep k9
            have k79 := Keep.trans k78 k9
            simp -dsimp [go_sem, hn1]
            refine ⟨Keep.agree k79 (Agree.refl _), ?_⟩
            refine (pend_Last _ _ _ _ ino _ h9 (by omega) (by omega) (by simp only [List.length_cons, List.length_nil]; omega)).mono ?_; rintro e w10 ⟨rfl, k10⟩; refine ret_intro ?_
            have h10 := h9.keep k10
            have k710 := Keep.trans k79 k10
            simp -dsimp [go_sem]
            refine ⟨Keep.agree k710 (Agree.refl _), ?_⟩
            refine (pend_All _ _ _ _ _ h10 (by simp only [List.length_cons, List.length_nil]; omega)).mono ?_; rintro e w11 ⟨aa, ac, rfl, hs11, k11⟩; refine ret_intro ?_
            have h11 := h10.keep k11
            have k711 := Keep.trans k710 k11
            have o11 := o4.keep (Keep.trans k7 k711)
            obtain ⟨na, nc, hv, hnc, hs12⟩ := OwnS.recs (fun x : Ef => x.enc (.slice none 0 0)) (n := 9) (fun _ => rfl) (by omega) (fun x => (⟨x, []⟩ : Eff)) RE o11 rfl (fun x _ => ⟨_, rfl, Bytes.none _⟩)
            cases hv
            simp -dsimp [go_sem]
            refine ⟨Keep.agree k711 (Agree.refl _), ?_⟩
            have hsa := sumpref09_SameAll aa _ _ _ ac vc w11 hs11 (hs12.keepE (Keep.refl _)) (by simp only [List.length_map, List.length_cons, List.length_nil]; unfold maxLen; omega) (by simp only [List.length_map, List.length_cons, List.length_nil]; unfold maxLen; omega)
            have heq : (([] : List POne).map (fun x => (⟨x.e, []⟩ : Eff))) = ((([] : List POne).map (fun x => x.e)).map (fun x => (⟨x, []⟩ : Eff))) := by simp
            rw [heq] at hsa
            simp only [List.length_map, List.length_cons, List.length_nil] at hsa
            refine hsa.mono ?_; rintro e w12 ⟨rfl, k12⟩; refine ret_intro ?_
            have h12 := h11.keep k12
            have k712 := Keep.trans k711 k12
            simp -dsimp [go_sem]
            refine ⟨Keep.agree k712 (Agree.refl _), ?_⟩
            try simp -dsimp (disch := omega) only [IntWalk.i64_in, IntWalk.u64_in, IntWalk.u8_in]
            refine back_intro ((_, []), gone, at', j + 1) (by simp -dsimp [go_sem]) (by simp -dsimp [go_sem]) ⟨by show j + 1 ≤ pops.length; omega, hga, hal, hql, Keep.trans (Keep.trans k4 k7) k712, O, h12, o11.keep k12, b4, c4⟩ (by show pops.length - (j + 1) < pops.length - j; omega)
          | cons y r =>
            obtain ⟨g, off2, rfl, hb2, -, hc2, -⟩ := hcell (by simp)
            unfold Ef.val Ef.enc
            have hc3 : ∀ j u, j < 9 → (y.e.enc (.slice none 0 0))[j]? = some u → w4.cell? ⟨g, off2 + j, .none⟩ = some u := fun j u hj hu => by
              refine hc2 _ _ ?_
              have := rows_at (fun x : Ef => x.enc (.slice none 0 0)) 9 (fun _ => rfl) (by omega) ((y :: r).map (·.e)) 0 j hj
              rw [Nat.zero_mul, Nat.zero_add] at this
              rw [this]; exact hu
            have k7 := Step.alloc k46 (Obj.cells (y.e.enc (.slice none 0 0)).toArray 53)
            have hc7 : ∀ j u, j < 9 → (y.e.enc (.slice none 0 0))[j]? = some u → (w6.alloc (Obj.cells (y.e.enc (.slice none 0 0)).toArray 53)).cell? ⟨g, off2 + j, .none⟩ = some u := fun j u hj hu => k7.cell (hc3 j u hj hu) (fun q => q)
            obtain ⟨c0, c1, c2, c3', c4', c5, c6, c7, c8⟩ := And.intro (hc7 0 _ (by omega) rfl) (And.intro (hc7 1 _ (by omega) rfl) (And.intro (hc7 2 _ (by omega) rfl) (And.intro (hc7 3 _ (by omega) rfl) (And.intro (hc7 4 _ (by omega) rfl) (And.intro (hc7 5 _ (by omega) rfl) (And.intro (hc7 6 _ (by omega) rfl) (And.intro (hc7 7 _ (by omega) rfl) (hc7 8 _ (by omega) rfl))))))))
            rw [Nat.add_zero] at c0
            unfold Ef.enc at c0 c1 c2 c3' c4' c5 c6 c7 c8
            have hb7 := k7.lt hb2
            have i2 : (0 : Int) < r.length + 1 := by omega
            simp -dsimp [go_sem, i2]
            simp -dsimp [go_sem, i2, hb7, c0, c1, c2, c3', c4', c5, c6, c7, c8]
            have h7 := h6.keep (keep_alloc w6 (Obj.cells (y.e.enc (.slice none 0 0)).toArray 53))
            unfold Ef.enc at h7 k7
            clear c0 c1 c2 c3' c4' c5 c6 c7 c8 hc7 hb7
            generalize w6.alloc _ = w7 at h7 k7 ⊢
            refine (sumpref09_Same y.e y.e (.slice none 0 0) (.slice none 0 0) [] [] _ (Bytes.none _) (Bytes.none _)).mono ?_; rintro e w8 ⟨rfl, k8⟩; refine ret_intro ?_
            have k78 := Keep.trans (keep_drew w7) k8
            have h8 := h7.keep k78
            have hrl : r.length + 1 = at' - gone := hql
            have hn1 : IntKind.i64.wrap (IntKind.i64.wrap ((gone : Int) + (r.length + 1)) + 1) = gone + (r.length + 1) + 1 := by rw [IntWalk.i64_in ((gone : Int) + (r.length + 1)) (by omega), IntWalk.i64_in _ (by omega)]
            simp -dsimp [go_sem]
            refine ⟨Keep.agree k78 (Agree.refl _), ?_⟩
            refine (pend_Len _ _ _ _ _ h8).mono ?_; rintro e w9 ⟨rfl, rfl⟩; refine ret_intro ?_
            simp -dsimp [go_sem]
            refine ⟨Keep.agree k78 (Agree.refl _), ?_⟩
            refine (pend_Gone _ _ _ _ _ h8).mono ?_; rintro e w9 ⟨rfl, rfl⟩; refine ret_intro ?_
            simp -dsimp [go_sem]
            refine ⟨Keep.agree k78 (Agree.refl _), ?_⟩
            refine (pend_Next _ _ _ _ _ h8 (by omega) (by simp only [List.length_cons, List.length_nil]; omega)).mono ?_; rintro e w9 ⟨rfl, k9⟩; refine ret_intro ?_
            have h9 := h8.keep k9
            have k79 := Keep.trans k78 k9
            simp -dsimp [go_sem, hn1]
            refine ⟨Keep.agree k79 (Agree.refl _), ?_⟩
            refine (pend_Last _ _ _ _ ino _ h9 (by omega) (by omega) (by simp only [List.length_cons, List.length_nil]; omega)).mono ?_; rintro e w10 ⟨rfl, k10⟩; refine ret_intro ?_
            have h10 := h9.keep k10
            have k710 := Keep.trans k79 k10
            simp -dsimp [go_sem]
            refine ⟨Keep.agree k710 (Agree.refl _), ?_⟩
            refine (pend_All _ _ _ _ _ h10 (by simp only [List.length_cons, List.length_nil]; omega)).mono ?_; rintro e w11 ⟨aa, ac, rfl, hs11, k11⟩; refine ret_intro ?_
            have h11 := h10.keep k11
            have k711 := Keep.trans k710 k11
            have o11 := o4.keep (Keep.trans k7 k711)
            obtain ⟨na, nc, hv, hnc, hs12⟩ := OwnS.recs (fun x : Ef => x.enc (.slice none 0 0)) (n := 9) (fun _ => rfl) (by omega) (fun x => (⟨x, []⟩ : Eff)) RE o11 rfl (fun x _ => ⟨_, rfl, Bytes.none _⟩)
            cases hv
            simp -dsimp [go_sem]
            refine ⟨Keep.agree k711 (Agree.refl _), ?_⟩
            have hsa := sumpref09_SameAll aa _ _ _ ac vc w11 hs11 (hs12.keepE (Keep.refl _)) (by simp only [List.length_map, List.length_cons, List.length_nil]; unfold maxLen; omega) (by simp only [List.length_map, List.length_cons, List.length_nil]; unfold maxLen; omega)
            have heq : ((y :: r : List POne).map (fun x => (⟨x.e, []⟩ : Eff))) = (((y :: r : List POne).map (fun x => x.e)).map (fun x => (⟨x, []⟩ : Eff))) := by simp
            rw [heq] at hsa
            simp only [List.length_map, List.length_cons, List.length_nil] at hsa
            refine hsa.mono ?_; rintro e w12 ⟨rfl, k12⟩; refine ret_intro ?_
            have h12 := h11.keep k12
            have k712 := Keep.trans k711 k12
            simp -dsimp [go_sem]
            refine ⟨Keep.agree k712 (Agree.refl _), ?_⟩
            try simp -dsimp (disch := omega) only [IntWalk.i64_in, IntWalk.u64_in, IntWalk.u8_in]
            refine back_intro ((_, y :: r), gone, at', j + 1) (by simp -dsimp [go_sem]) (by simp -dsimp [go_sem]) ⟨by show j + 1 ≤ pops.length; omega, hga, hal, hql, Keep.trans (Keep.trans k4 k7) k712, O, h12, o11.keep k12, b4, c4⟩ (by show pops.length - (j + 1) < pops.length - j; omega)
    · simp at g1
      obtain rfl : j = pops.length := by omega
      simp -dsimp [go_sem]
      exact Keep.trans k02 k3
end Go.Proofs.Ythchaodakfnbbaa
