/- Package check: Open. -/
import Derived.Test.YtdfjfagljngciaaGreatUnp
set_option linter.all false
set_option maxRecDepth 100000
set_option maxHeartbeats 4000000
namespace Go.Proofs.YtdfjfagljngciaaGreat
open Go.RowKit Rx

theorem check_Open (X : Nat → Prop) (v : Value) (d : List UInt64) (s : UInt64) (hl : d.length ≤ 2 ^ 40) (w : World) (h : Sl rWord X w v (d ++ [s])) :
    Calls Tryz.prog 56 #[v] w fun r w' => ∃ o, r = .returned (.tuple #[o, .bool (decide (sumL d = s))]) ∧ (sumL d = s → Ow rWord 66 X w' o d ∧ ∀ g, ownB o = some g → w.heap.size ≤ g) ∧ Keep w w' := by
  have hlen : (d ++ [s]).length = d.length + 1 := by simp
  obtain ⟨a', c', e, hc1, hc2, o1⟩ := h.cut (i := 0) (m := d.length) (by omega) (by omega)
  obtain ⟨b, off, c, e', hb, -, hc⟩ := h.word (i := d.length) (x := s) (by simp)
  subst e'
  cases e
  rw [hlen] at hc1 h ⊢
  have p1 : Sl rWord X w (.slice (some ⟨b, off, none⟩) d.length c') d := by
    have ha0 : (if c' = 0 then some (⟨b, off, none⟩ : Addr) else Option.map (fun x : Addr => x.add (0 * rWord.n)) (some ⟨b, off, none⟩)) = some ⟨b, off, none⟩ := by
      rw [Nat.zero_mul]; simp [Addr.add]
    unfold sliced at o1
    rw [ha0] at o1
    simpa using o1
  unfold maxLen at hc2
  have e1 : IntKind.i64.wrap ((d.length : Int) + 1) = (d.length : Int) + 1 := IntWalk.i64_in _ (by omega)
  have e2 : IntKind.i64.wrap ((d.length : Int) + 1 - 1) = (d.length : Int) := by rw [Int.add_sub_cancel]; exact IntWalk.i64_in _ (by omega)
  have i1 : ¬ (d.length : Int) + 1 = 0 := by omega
  have i2 : (d.length : Int) ≤ c' := by omega
  have i3 : d.length ≤ c' := by omega
  have i4 : (d.length : Int) < (d.length : Int) + 1 := by omega
  have i5 : (0 : Int) ≤ d.length := by omega
  refine calls_rx h56 Tryz.func56 rfl Tryz.mixed (by kernel_rfl) Tryz.results56 ?_
  have e3 : IntKind.i64.wrap (d.length : Int) = (d.length : Int) := IntWalk.i64_in _ (by omega)
  simp -dsimp [go_sem, e1, e2, e3, i1, i2, i3, i4, i5, hb, hc]
  refine (check_Sum X _ d _ (p1.keep (keep_drew w))).mono ?_; rintro _ w1 ⟨rfl, k1⟩; refine ret_intro ?_
  have k01 := Keep.trans (keep_drew w) k1
  refine ⟨Keep.agree k01 (Agree.refl _), ?_⟩
  have hb1 := k01.lt hb
  simp -dsimp [go_sem, e1, e2, e3, i1, i2, i3, i4, i5, hb, hc]
  by_cases g : sumL d = s
  rotate_left
  · have g' : ¬ (sumL d).toNat = s.toNat := fun q => g (UInt64.toNat_inj.1 q)
    rw [decide_eq_false g]
    have g2 : ¬ ((sumL d).toNat : Int) = s.toNat := by omega
    simp -dsimp [go_sem, g2]
    exact ⟨fun q => absurd q g, k01⟩
  subst g
  rw [decide_eq_true rfl]
  simp -dsimp [go_sem, e1, e2, e3, i1, i2, i3, i4, i5]
  refine (clone_words X _ d w1 (p1.keep k01) hl).mono ?_
  rintro _ w2 ⟨u, rfl, o2, k2, b2⟩
  refine ret_intro ?_
  obtain ⟨ua, uc, rfl, -⟩ := o2.slice
  simp -dsimp [go_sem]
  have l1 := k01.size
  exact ⟨⟨o2, fun g hg => by have := b2 g hg; omega⟩, Keep.trans k01 k2⟩
end Go.Proofs.YtdfjfagljngciaaGreat
