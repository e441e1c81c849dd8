/- slices.Compact of ints that are apart: none goes. slices.Compact of any ints: it returns a part of its argument, all of it just if no two that are equal stand side by side. -/
import Derived.Test.YtdfjfagljngciaaGreatInode
set_option linter.all false
set_option maxRecDepth 100000
set_option maxHeartbeats 4000000
namespace Go.Proofs.YtdfjfagljngciaaGreat
open Go.RowKit Rx

theorem compact_apart (X : Nat → Prop) (v : Value) (l : List Int) (w : World) (h : Sl rInt X w v l) (hd : l.Nodup) :
    Calls Tryz.prog 131 #[v] w fun e w' => e = .returned v ∧ Keep w w' := by
  obtain ⟨a, c, rfl, -⟩ := id h
  have hmx := h.len
  unfold maxLen at hmx
  refine calls_rx h131 Tryz.func131 rfl Tryz.mixed (by kernel_rfl) Tryz.results131 ?_
  by_cases g0 : l.length < 2
  · have g0' : (l.length : Int) < 2 := by omega
    simp -dsimp [go_sem, g0, g0']
    exact Keep.refl w
  have g0' : ¬ (l.length : Int) < 2 := by omega
  simp -dsimp [go_sem, g0, g0']
  refine loop_intro (σ := Nat) (fun i => [.int .i64 i]) (fun i w' => 1 ≤ i ∧ i ≤ l.length ∧ Keep w w') (fun i => l.length - i) 1 (by simp -dsimp [go_sem]; rfl) (by simp -dsimp [go_sem]) ⟨by omega, by omega, Keep.refl w⟩ ?_
  rintro i w1 ⟨hi0, hi, k1⟩
  simp -dsimp [go_sem]
  by_cases g1 : i < l.length
  rotate_left
  · obtain rfl : i = l.length := by omega
    simp -dsimp [go_sem, Nat.lt_irrefl]
    exact k1
  have hx : l[i]? = some l[i] := List.getElem?_eq_getElem _
  have hy : l[i - 1]? = some l[i - 1] := List.getElem?_eq_getElem (by omega)
  have hne : ¬ l[i] = l[i - 1] := fun q => by
    have := (List.getElem_inj hd).1 q
    omega
  generalize l[i] = x at hx hne
  generalize l[i - 1] = y at hy hne
  obtain ⟨b, off, c1, e, hb, -, hc, -⟩ := (h.keep k1).int hx
  obtain ⟨b', off', c2, e', -, -, hc', -⟩ := (h.keep k1).int hy
  cases e
  cases e'
  have i2 : (i : Int) < l.length := by omega
  have i3 : (i : Int) - 1 < l.length := by omega
  have i4 : (0 : Int) ≤ (i : Int) - 1 := by omega
  have i5 : (i : Int) - 1 = ((i - 1 : Nat) : Int) := by omega
  have i6 : (((i : Int) - 1).toNat) = i - 1 := by omega
  have i7 : ((i - 1 : Nat) : Int) < l.length := by omega
  have e1 : IntKind.i64.wrap ((i : Int) - 1) = (i : Int) - 1 := IntWalk.i64_in _ (by omega)
  have i8 : (1 : Int) ≤ i := by omega
  have hne' : ¬ y = x := fun q => hne q.symm
  simp -dsimp [go_sem, g1, i2, i3, hb, hc, hc', i4, hne, hne', i6, i8, e1, hi0]
  try simp -dsimp (disch := omega) only [IntWalk.i64_in, IntWalk.u64_in, IntWalk.u8_in]
  exact back_intro (i + 1) (by simp -dsimp [go_sem]) (by simp -dsimp [go_sem]) ⟨by omega, by omega, Keep.trans k1 (keep_drew w1)⟩ (by omega)
end Go.Proofs.YtdfjfagljngciaaGreat

set_option linter.all false
set_option maxRecDepth 100000
set_option maxHeartbeats 4000000
namespace Go.Proofs.YtdfjfagljngciaaGreat
open Go.RowKit Rx

/-- No two that stand side by side are equal. -/
def sideB : List Int → Bool
  | x :: y :: r => !decide (x = y) && sideB (y :: r)
  | _ => true
theorem sideB_iff : ∀ (l : List Int), sideB l = true ↔ ∀ j x y, l[j]? = some x → l[j + 1]? = some y → x ≠ y
  | [] => by simp [sideB]
  | [a] => by simp [sideB]
  | a :: b :: r => by
    have ih := sideB_iff (b :: r)
    simp only [sideB, Bool.and_eq_true, Bool.not_eq_true', decide_eq_false_iff_not, ih]
    constructor
    · rintro ⟨h1, h2⟩ j x y hx hy
      cases j with
      | zero => simp at hx hy; subst hx; subst hy; exact h1
      | succ j => exact h2 j x y (by simpa using hx) (by simpa using hy)
    · intro h
      exact ⟨h 0 a b rfl rfl, fun j x y hx hy => h (j + 1) x y (by simpa using hx) (by simpa using hy)⟩
theorem sideB_short : ∀ {l : List Int}, l.length < 2 → sideB l = true
  | [], _ => rfl
  | [_], _ => rfl
  | _ :: _ :: _, h => by simp at h; omega
theorem compact_any (v : Value) (l : List Int) (hl : l.length ≤ 2 ^ 40) (w : World) (h0 : Ow rInt 3 (fun _ => True) w v l) :
    Calls Tryz.prog 131 #[v] w fun e w' => ∃ a n c, e = .returned (.slice a n c) ∧ n ≤ l.length ∧ decide (n = l.length) = sideB l ∧ Step (fun k => ownB v = some k) w w' := by
  have h : Sl rInt (fun _ => False) w v l := (h0.all flat_int (Y := fun _ => False)).sl (fun _ _ q => q)
  obtain ⟨a, c, rfl, -⟩ := id h
  have hmx := h.len
  unfold maxLen at hmx
  refine calls_rx h131 Tryz.func131 rfl Tryz.mixed (by kernel_rfl) Tryz.results131 ?_
  by_cases g0 : l.length < 2
  · have g0' : (l.length : Int) < 2 := by omega
    simp -dsimp [go_sem, g0, g0']
    refine ⟨_, _, ⟨rfl, rfl⟩, Nat.le_refl _, ?_, Step.refl _ _⟩
    rw [sideB_short g0, decide_eq_true_eq]
  have g0' : ¬ (l.length : Int) < 2 := by omega
  simp -dsimp [go_sem, g0, g0']
  refine loop_intro (σ := Nat) (fun i => [.int .i64 i]) (fun i w' => 1 ≤ i ∧ i ≤ l.length ∧ Keep w w' ∧ ∀ j x y, j + 1 < i → l[j]? = some x → l[j + 1]? = some y → x ≠ y) (fun i => l.length - i) 1 (by simp -dsimp [go_sem]; rfl) (by simp -dsimp [go_sem]) ⟨by omega, by omega, Keep.refl w, fun j x y q => by omega⟩ ?_
  rintro i w1 ⟨hi0, hi, k1, hap⟩
  simp -dsimp [go_sem]
  by_cases g1 : i < l.length
  rotate_left
  · obtain rfl : i = l.length := by omega
    simp -dsimp [go_sem, Nat.lt_irrefl]
    refine ⟨_, _, ⟨rfl, rfl⟩, Nat.le_refl _, ?_, Keep.any k1⟩
    rw [decide_eq_true rfl]
    exact ((sideB_iff l).2 (fun j x y hx hy => hap j x y (List.getElem?_eq_some_iff.1 hy).1 hx hy)).symm
  have hx : l[i]? = some l[i] := List.getElem?_eq_getElem _
  have hy : l[i - 1]? = some l[i - 1] := List.getElem?_eq_getElem (by omega)
  generalize l[i] = x at hx
  generalize l[i - 1] = y at hy
  obtain ⟨b, off, c1, e, hb, -, hc, -⟩ := (h.keep k1).int hx
  obtain ⟨b', off', c2, e', -, -, hc', -⟩ := (h.keep k1).int hy
  cases e
  cases e'
  have i2 : (i : Int) < l.length := by omega
  have i3 : (i : Int) - 1 < l.length := by omega
  have i4 : (0 : Int) ≤ (i : Int) - 1 := by omega
  have i5 : (i : Int) - 1 = ((i - 1 : Nat) : Int) := by omega
  have i6 : (((i : Int) - 1).toNat) = i - 1 := by omega
  have i7 : ((i - 1 : Nat) : Int) < l.length := by omega
  have e1 : IntKind.i64.wrap ((i : Int) - 1) = (i : Int) - 1 := IntWalk.i64_in _ (by omega)
  have i8 : (1 : Int) ≤ i := by omega
  by_cases hne : x = y
  rotate_left
  · have hne' : ¬ y = x := fun q => hne q.symm
    simp -dsimp [go_sem, g1, i2, i3, hb, hc, hc', i4, hne, hne', i6, i8, e1, hi0]
    try simp -dsimp (disch := omega) only [IntWalk.i64_in, IntWalk.u64_in, IntWalk.u8_in]
    refine back_intro (i + 1) (by simp -dsimp [go_sem]) (by simp -dsimp [go_sem]) ⟨by omega, by omega, Keep.trans k1 (keep_drew w1), fun j x' y' hj hx' hy' => ?_⟩ (by omega)
    rcases Nat.lt_or_ge (j + 1) i with q | q
    · exact hap j x' y' q hx' hy'
    · obtain rfl : j = i - 1 := by omega
      rw [show i - 1 + 1 = i from by omega, hx] at hy'
      rw [hy] at hx'
      cases hx'; cases hy'
      exact fun e => hne e.symm
  have hbad : sideB l = false := by
    cases hq : sideB l with
    | false => rfl
    | true => exact absurd ((sideB_iff l).1 hq (i - 1) y x hy (by rw [show i - 1 + 1 = i from by omega]; exact hx)) (fun q => q hne.symm)
  subst hne
  have hcc : l.length ≤ c := by obtain ⟨_, _, e, q, -⟩ := id h; cases e; exact q
  have hcm : c ≤ maxLen := by obtain ⟨_, _, e, -, q, -⟩ := id h; cases e; exact q
  have j1 : ¬ c = i := by omega
  simp -dsimp [go_sem, g1, i2, i3, hb, hc, hc', i4, i6, i8, e1, hi0, hi, j1]
  have o1 : Ow rInt 3 (fun _ => True) w1.drew (.slice (some ⟨b, off, none⟩) l.length c) l := (h0.keep k1).keep (keep_drew w1)
  refine loop_intro (σ := Nat × Nat) (fun t => [.int .i64 t.1, .int .i64 t.2]) (fun t w' => i ≤ t.1 ∧ 1 ≤ t.2 ∧ t.2 ≤ l.length - i ∧ t.1 + 1 ≤ i + t.2 ∧ Step (fun k => ownB (.slice (some ⟨b, off, none⟩) l.length c) = some k) w w' ∧ ∃ l', l'.length = l.length ∧ Ow rInt 3 (fun _ => True) w' (.slice (some ⟨b, off, none⟩) l.length c) l') (fun t => l.length - i - t.2) (i, 1) (by simp -dsimp [go_sem]; rfl) (by simp -dsimp [go_sem]) ⟨Nat.le_refl _, Nat.le_refl _, by omega, by omega, Keep.any (Keep.trans k1 (keep_drew w1)), l, rfl, o1⟩ ?_
  rintro ⟨k, m⟩ w2 ⟨p1, p2, p3, p4, s2, l', hl', o2⟩
  simp only at p1 p2 p3 p4
  simp -dsimp [go_sem]
  by_cases y1 : m < l.length - i
  · have hx2 : l'[i + m]? = some l'[i + m] := List.getElem?_eq_getElem (by omega)
    have hy2 : l'[i + (m - 1)]? = some l'[i + (m - 1)] := List.getElem?_eq_getElem (by omega)
    have hz2 : l'[k]? = some l'[k] := List.getElem?_eq_getElem (by omega)
    generalize l'[i + m] = x2 at hx2
    generalize l'[i + (m - 1)] = y2 at hy2
    generalize l'[k] = z2 at hz2
    obtain ⟨g1', o1', c1', e, q1, -, q3, q4, q5, -⟩ := o2.int_at hx2
    simp only [Value.slice.injEq, Option.some.injEq, Addr.mk.injEq, and_true] at e
    obtain ⟨⟨rfl, rfl⟩, -, -⟩ := e
    obtain ⟨g2', o2', c2', e, -, -, r3, -, -, -⟩ := o2.int_at hy2
    simp only [Value.slice.injEq, Option.some.injEq, Addr.mk.injEq, and_true] at e
    obtain ⟨⟨rfl, rfl⟩, -, -⟩ := e
    obtain ⟨g3', o3', c3', e, -, -, t3, t4, -, hset⟩ := o2.int_at hz2
    simp only [Value.slice.injEq, Option.some.injEq, Addr.mk.injEq, and_true] at e
    obtain ⟨⟨rfl, rfl⟩, -, -⟩ := e
    have w1' : (m : Int) < ((l.length - i : Nat) : Int) := by omega
    have w2' : IntKind.i64.wrap ((m : Int) - 1) = (m : Int) - 1 := IntWalk.i64_in _ (by omega)
    have w3' : (0 : Int) ≤ (m : Int) - 1 := by omega
    have w4' : ((m : Int) - 1).toNat = m - 1 := by omega
    have w5' : (m : Int) - 1 < ((l.length - i : Nat) : Int) := by omega
    have w6' : (k : Int) < l.length := by omega
    have w7' : k < l.length := by omega
    have q3' := q3
    rw [← Nat.add_assoc] at q3 r3
    have w8' : (1 : Int) ≤ m := by omega
    by_cases hxy : x2 = y2
    · simp -dsimp [go_sem, y1, q1, q3, r3, t3, t4, w1', w2', w3', w4', w5', w6', w7', w8', hxy]
      try simp -dsimp (disch := omega) only [IntWalk.i64_in, IntWalk.u64_in, IntWalk.u8_in]
      exact back_intro (k, m + 1) (by simp -dsimp [go_sem]) (by simp -dsimp [go_sem]) ⟨p1, by simp only; omega, by simp only; omega, by simp only; omega, s2.then (keep_drew w2), l', hl', o2.keep (keep_drew w2)⟩ (by simp only; omega)
    have hyx : ¬ y2 = x2 := fun q => hxy q.symm
    simp -dsimp [go_sem, y1, q1, q3, r3, t3, t4, w1', w2', w3', w4', w5', w6', w7', w8', hxy, hyx]
    try simp -dsimp (disch := omega) only [IntWalk.i64_in, IntWalk.u64_in, IntWalk.u8_in]
    have o3 := hset x2 (by obtain ⟨_, _, _, _, _, _, _, _, q, _⟩ := o2.int_at hx2; exact q)
    have sS : Step (fun k => ownB (.slice (some ⟨b, off, none⟩) l.length c) = some k) w2 (w2.setCell ⟨b, off + k, none⟩ (.int .i64 x2)) := (Step.refl _ w2).set (p := ⟨b, off + k, none⟩) (.inl (by simp [ownB]; omega)) _
    exact back_intro (k + 1, m + 1) (by simp -dsimp [go_sem]) (by simp -dsimp [go_sem]) ⟨by simp only; omega, by simp only; omega, by simp only; omega, by simp only; omega, (s2.trans sS (fun j _ q => q)).then (keep_drew _), l'.set k x2, by rw [List.length_set]; exact hl', o3.keep (keep_drew _)⟩ (by simp only; omega)
  have y2 : m = l.length - i := by omega
  have z1 : k ≤ l.length := by omega
  have z2 : ¬ c = k := by omega
  have z3 : k ≤ c := by omega
  obtain ⟨gb, ob, cu, e, hgb, hsz, -⟩ := o2.blk (by omega)
  cases e
  simp only [show rInt.n = 1 from rfl] at hsz
  have hmul : k + (l.length - k) * 1 = l.length := by omega
  obtain ⟨zs, hzl, hrun⟩ := run_clearS (P := Tryz.prog) w2 (t := 39) (ty := 0) (e := 3) (z := .int .i64 0) (Tryz.zeroValue3 w2) (by intro u hu; simp [Value.cells] at hu; subst hu; rfl) Tryz.underlying39 (g := b) (o := off + k) (k := l.length - k) (c := c - k) (by omega) hgb (by simp [Value.cells]; omega)
  simp -dsimp [go_sem, y1, z1, z2, z3, hrun]
  refine ⟨_, _, ⟨rfl, rfl⟩, z1, by rw [hbad]; exact decide_eq_false (by omega), s2.trans (step_sets b zs _ w2) (fun j _ q => ?_)⟩
  subst q
  simp [ownB]; omega
end Go.Proofs.YtdfjfagljngciaaGreat
