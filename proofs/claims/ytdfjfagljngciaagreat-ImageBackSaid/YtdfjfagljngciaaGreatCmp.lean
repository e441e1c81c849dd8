/- slices.Compact of ints that are apart: none goes. -/
import Derived.Test.YtdfjfagljngciaaGreatInode
set_option linter.all false
set_option maxRecDepth 100000
set_option maxHeartbeats 4000000
namespace Go.Proofs.YtdfjfagljngciaaGreat
open Go.RowKit Rx

theorem compact_apart (X : Nat → Prop) (v : Value) (l : List Int) (w : World) (h : Sl rInt X w v l) (hd : l.Nodup) :
    Calls Tryz.prog 131 #[v] w fun e w' => e = .returned v ∧ Keep w w' := by
  obtain ⟨a, c, rfl, -⟩ := id h
  have hmx := h.len
  unfold maxLen at hmx
  refine calls_rx h131 Tryz.func131 rfl Tryz.mixed (by kernel_rfl) Tryz.results131 ?_
  by_cases g0 : l.length < 2
  · have g0' : (l.length : Int) < 2 := by omega
    simp -dsimp [go_sem, g0, g0']
    exact Keep.refl w
  have g0' : ¬ (l.length : Int) < 2 := by omega
  simp -dsimp [go_sem, g0, g0']
  refine loop_intro (σ := Nat) (fun i => [.int .i64 i]) (fun i w' => 1 ≤ i ∧ i ≤ l.length ∧ Keep w w') (fun i => l.length - i) 1 (by simp -dsimp [go_sem]; rfl) (by simp -dsimp [go_sem]) ⟨by omega, by omega, Keep.refl w⟩ ?_
  rintro i w1 ⟨hi0, hi, k1⟩
  simp -dsimp [go_sem]
  by_cases g1 : i < l.length
  rotate_left
  · obtain rfl : i = l.length := by omega
    simp -dsimp [go_sem, Nat.lt_irrefl]
    exact k1
  have hx : l[i]? = some l[i] := List.getElem?_eq_getElem _
  have hy : l[i - 1]? = some l[i - 1] := List.getElem?_eq_getElem (by omega)
  have hne : ¬ l[i] = l[i - 1] := fun q => by
    have := (List.getElem_inj hd).1 q
    omega
  generalize l[i] = x at hx hne
  generalize l[i - 1] = y at hy hne
  obtain ⟨b, off, c1, e, hb, -, hc, -⟩ := (h.keep k1).int hx
  obtain ⟨b', off', c2, e', -, -, hc', -⟩ := (h.keep k1).int hy
  cases e
  cases e'
  have i2 : (i : Int) < l.length := by omega
  have i3 : (i : Int) - 1 < l.length := by omega
  have i4 : (0 : Int) ≤ (i : Int) - 1 := by omega
  have i5 : (i : Int) - 1 = ((i - 1 : Nat) : Int) := by omega
  have i6 : (((i : Int) - 1).toNat) = i - 1 := by omega
  have i7 : ((i - 1 : Nat) : Int) < l.length := by omega
  have e1 : IntKind.i64.wrap ((i : Int) - 1) = (i : Int) - 1 := IntWalk.i64_in _ (by omega)
  have i8 : (1 : Int) ≤ i := by omega
  have hne' : ¬ y = x := fun q => hne q.symm
  simp -dsimp [go_sem, g1, i2, i3, hb, hc, hc', i4, hne, hne', i6, i8, e1, hi0]
  try simp -dsimp (disch := omega) only [IntWalk.i64_in, IntWalk.u64_in, IntWalk.u8_in]
  exact back_intro (i + 1) (by simp -dsimp [go_sem]) (by simp -dsimp [go_sem]) ⟨by omega, by omega, Keep.trans k1 (keep_drew w1)⟩ (by omega)
end Go.Proofs.YtdfjfagljngciaaGreat
