/- The reference's Find. -/
import Derived.Test.YtdfjfagljngciaaGreatDoorFnd
import Derived.Test.YtdfjfagljngciaaGreatDoorRe
set_option linter.all false
set_option maxRecDepth 100000
set_option maxHeartbeats 4000000
namespace Go.Proofs.YtdfjfagljngciaaGreatDoor
open Go.RowKit Rx Go.MapKept

theorem findN_zero {k : Nat} {s : St} (hg : Good k s) (d : Int) (x : ByteArray) : (findN (dirN s d).names x).2 = decide ((findN (dirN s d).names x).1 ≠ 0) := by
  rcases findN_place (dirN s d).names x with ⟨-, h⟩ | ⟨i, y, -, h2, -, h4⟩
  · rw [h]; rfl
  · rw [h4]
    have hm : y ∈ (dirN s d).names := List.mem_of_getElem? h2
    have h1 : 1 ≤ y.ino := by
      unfold dirN at hm
      cases hq : getL s.L d with
      | none => rw [hq] at hm; simp [node0] at hm
      | some n =>
        rw [hq] at hm
        exact ((hg.ok n (getL_some hq).1).nm y hm).2
    simp only
    rw [decide_eq_true (by omega : y.ino ≠ 0)]
theorem ref_FindP (X : Nat → Prop) (b : Nat) (v : Value) (s : St) (k : Nat) (hg : Good k s) (hk : k ≤ 2 ^ 19) (p : ByteArray) (hp : p.size < 2 ^ 62) (w : World) (h : RAt w X b v s) :
    Calls Tryz.prog 17 #[.pointer (some ⟨b, 0, none⟩), .string p] w fun r w' => r = .returned (.tuple #[.int .i64 (findP s p).1, .int .i64 (findP s p).2]) ∧ Keep w w' := by
  have hl40 : s.L.length ≤ 2 ^ 40 := Nat.le_trans hg.len (by omega)
  refine calls_rx h17 Tryz.func17 rfl Tryz.mixed (by kernel_rfl) Tryz.results17 ?_
  unfold findP
  simp -dsimp [go_sem]
  refine (ref_Split p hp w).mono ?_; rintro _ w1 ⟨pv, rfl, hv, k1⟩; refine ret_intro ?_
  generalize splitP p = sp at hv ⊢
  obtain ⟨l, e⟩ := sp
  simp only at hv ⊢
  obtain ⟨a, c, rfl, -⟩ := id hv
  have hml := hv.len
  unfold maxLen at hml
  by_cases g0 : e = 0
  rotate_left
  · rw [if_neg g0]
    simp -dsimp [go_sem, g0]
    exact k1
  subst g0
  rw [if_pos rfl]
  simp -dsimp [go_sem]
  refine loop_intro (σ := Nat × Int) (fun t => [.int .i64 t.2, .int .i64 t.1]) (fun t w' => t.1 ≤ l.length ∧ Keep w1 w' ∧ walkS s l 1 = walkS s (l.drop t.1) t.2) (fun t => l.length - t.1) (0, 1) (by simp -dsimp [go_sem]; rfl) (by simp -dsimp [go_sem]) ⟨Nat.zero_le _, Keep.refl w1, rfl⟩ ?_
  rintro ⟨i, d⟩ w2 ⟨hi, hk12, hw⟩
  simp only at hi hw
  have k2 := Keep.trans k1 hk12
  simp -dsimp [go_sem]
  by_cases y1 : i < l.length
  rotate_left
  · obtain rfl : i = l.length := by omega
    rw [List.drop_length] at hw
    rw [hw]
    simp -dsimp [go_sem, Nat.lt_irrefl]
    exact ⟨⟨rfl, rfl⟩, k2⟩
  have hx : l[i]? = some l[i] := List.getElem?_eq_getElem _
  generalize l[i] = x at hx
  rw [walk_at hx] at hw
  have y2 : (i : Int) < l.length := by omega
  obtain ⟨bb, off, c', e, hb, -, hc⟩ := (hv.keep hk12).str hx
  cases e
  simp -dsimp [go_sem, y1, y2, hb, hc]
  refine (ref_kind X b v s d hl40 w2 (h.keep k2)).mono ?_; rintro _ w3 ⟨rfl, k3⟩; refine ret_intro ?_
  have hkd := kindS_dir s d
  cases hD : isDir s d
  · rw [if_pos hD] at hw
    rw [hD] at hkd
    have hkd' : ¬ kindS s d = 2 := by simpa using hkd
    simp -dsimp [go_sem, hkd']
    rw [hw]
    exact ⟨⟨rfl, rfl⟩, Keep.trans k2 k3⟩
  rw [if_neg (by rw [hD]; decide)] at hw
  rw [hD] at hkd
  have hkd' : kindS s d = 2 := by simpa using hkd
  simp -dsimp [go_sem, hkd']
  refine (ref_named X b v s d x hl40 w3 (h.keep (Keep.trans k2 k3))).mono ?_; rintro _ w4 ⟨rfl, k4⟩; refine ret_intro ?_
  have hnm : namedS s d x = (findN (dirN s d).names x).1 := by unfold namedS; rw [if_pos hD]
  have hz := findN_zero hg d x
  rw [hnm]
  generalize findN (dirN s d).names x = fd at hw hz ⊢
  obtain ⟨f1, f2⟩ := fd
  simp only at hw hz ⊢
  have k24 := Keep.trans k3 k4
  by_cases z : f1 = 0
  · rw [if_pos (by rw [hz]; simp [z])] at hw
    simp -dsimp [go_sem, z]
    rw [hw]
    exact ⟨⟨rfl, rfl⟩, Keep.trans k2 k24⟩
  rw [if_neg (by rw [hz]; simp [z])] at hw
  simp -dsimp [go_sem, z]
  try simp -dsimp (disch := omega) only [IntWalk.i64_in, IntWalk.u64_in, IntWalk.u8_in]
  exact back_intro (i + 1, f1) (by simp -dsimp [go_sem]) (by simp -dsimp [go_sem]) ⟨by omega, Keep.trans hk12 k24, hw⟩ (by simp only; omega)
end Go.Proofs.YtdfjfagljngciaaGreatDoor
