/- Chapter 24's example, and: sixteen files are open at most. -/
import Derived.Test.YthchaodakfnbbaaFdb
set_option linter.all false
namespace Go.Proofs.Ythchaodakfnbbaa
open Go.RowKit Rx Go.Proofs.Ythchaodakfnbbaa.Fd

theorem fd_awake (w : World) : Calls Try.prog 8 #[] w fun e w' => e = .returned (.bool true) ∧ Keep w w' := by
  refine calls_rx h8 Try.func8 rfl Try.mixed (by kernel_rfl) Try.results8 ?_
  simp -dsimp [go_sem]
  refine (fd_new _).mono ?_; rintro e w1 ⟨rfl, h1, k1⟩; refine ret_intro ?_
  simp -dsimp [go_sem]
  refine (fd_open _ _ ⟨5, 0, 0⟩ _ h1).mono ?_; rintro e w2 ⟨rfl, h2, k2⟩; refine ret_intro ?_
  rw [show opens (List.replicate 16 zero) ⟨5, 0, 0⟩ = ⟨5, 0, 0⟩ :: List.replicate 15 zero from by decide] at h2
  rw [show free (List.replicate 16 zero) = 0 from by decide]
  simp -dsimp [go_sem]
  refine (fd_open _ _ ⟨6, 0, 0⟩ _ h2).mono ?_; rintro e w3 ⟨rfl, h3, k3⟩; refine ret_intro ?_
  rw [show opens (⟨5, 0, 0⟩ :: List.replicate 15 zero) ⟨6, 0, 0⟩ = ⟨5, 0, 0⟩ :: ⟨6, 0, 0⟩ :: List.replicate 14 zero from by decide] at h3
  rw [show free (⟨5, 0, 0⟩ :: List.replicate 15 zero) = 1 from by decide]
  simp -dsimp [go_sem]
  refine (fd_close _ _ 0 _ h3).mono ?_; rintro e w4 ⟨rfl, h4, k4⟩; refine ret_intro ?_
  rw [show closes (⟨5, 0, 0⟩ :: ⟨6, 0, 0⟩ :: List.replicate 14 zero) 0 = zero :: ⟨6, 0, 0⟩ :: List.replicate 14 zero from by decide] at h4
  simp -dsimp [go_sem]
  refine (fd_open _ _ ⟨7, 0, 0⟩ _ h4).mono ?_; rintro e w5 ⟨rfl, h5, k5⟩; refine ret_intro ?_
  rw [show opens (zero :: ⟨6, 0, 0⟩ :: List.replicate 14 zero) ⟨7, 0, 0⟩ = ⟨7, 0, 0⟩ :: ⟨6, 0, 0⟩ :: List.replicate 14 zero from by decide] at h5
  rw [show free (zero :: ⟨6, 0, 0⟩ :: List.replicate 14 zero) = 0 from by decide]
  simp -dsimp [go_sem]
  refine (fd_len _ _ _ h5).mono ?_; rintro e w6 ⟨rfl, k6⟩; refine ret_intro ?_
  rw [show (opened (⟨7, 0, 0⟩ :: ⟨6, 0, 0⟩ :: List.replicate 14 zero)).length = 2 from by decide]
  simp -dsimp [go_sem]
  exact ((((k1.keep k2 (by rintro i rfl; exact Nat.le_refl _)).keep k3 (by rintro i rfl; exact Nat.le_refl _)).keep k4 (by rintro i rfl; exact Nat.le_refl _)).keep k5 (by rintro i rfl; exact Nat.le_refl _)).then k6
/-- The table when i files have been opened. -/
def Fd.Lf (i : Nat) : List Opn := (List.range 16).map (fun j => if j < i then ⟨(j : Int) + 1, 0, 0⟩ else zero)
theorem Fd.Lf_big {i : Nat} (h : 16 ≤ i) : Lf i = Lf 16 := by
  unfold Lf
  apply List.map_congr_left
  intro j hj
  have := List.mem_range.1 hj
  rw [if_pos (by omega), if_pos this]
theorem Fd.Lf_free (i : Nat) : free (Lf i) = min i 16 := by
  by_cases h : i ≤ 16
  · have := (show ∀ i : Fin 17, free (Lf i) = min i.1 16 from by decide) ⟨i, by omega⟩
    exact this
  · rw [Lf_big (by omega), show free (Lf 16) = 16 from by decide]; omega
theorem Fd.Lf_opens (i : Nat) : opens (Lf i) ⟨(i : Int) + 1, 0, 0⟩ = Lf (i + 1) := by
  by_cases h : i < 16
  · have := (show ∀ i : Fin 16, opens (Lf i) ⟨(i : Int) + 1, 0, 0⟩ = Lf (i + 1) from by decide) ⟨i, by omega⟩
    exact this
  · rw [Lf_big (i := i + 1) (by omega)]
    unfold opens
    rw [if_neg (by rw [Lf_free]; omega), Lf_big (by omega)]
theorem Fd.Lf_opened (i : Nat) : (opened (Lf i)).length = min i 16 := by
  by_cases h : i ≤ 16
  · have := (show ∀ i : Fin 17, (opened (Lf i)).length = min i.1 16 from by decide) ⟨i, by omega⟩
    exact this
  · rw [Lf_big (by omega), show (opened (Lf 16)).length = 16 from by decide]; omega
theorem Fd.Lf_at {i j : Nat} (hj : j < 16) : (Lf i)[j]? = some (if j < i then ⟨(j : Int) + 1, 0, 0⟩ else zero) := by
  unfold Lf
  rw [List.getElem?_map, List.getElem?_range hj]; rfl
set_option maxHeartbeats 2000000 in
theorem fd_full_law (n at_ : Int) (o : Opn) (w : World) : Calls Try.prog 3 #[.int .i64 n, .int .i64 at_, val o] w fun e w' => e = .returned (.bool true) ∧ Keep w w' := by
  unfold val
  refine calls_rx h3 Try.func3 rfl Try.mixed (by kernel_rfl) Try.results3 ?_
  simp -dsimp [go_sem]
  refine (fd_awake _).mono ?_; rintro e w1 ⟨rfl, k1⟩; refine ret_intro ?_
  have k1' := (keep_alloc _ _).trans k1
  have c0 := k1.cell (a := ⟨w.heap.size, 0, none⟩) (by simp -dsimp [go_sem]; rfl) (fun q => q)
  have c1 := k1.cell (a := ⟨w.heap.size, 1, none⟩) (by simp -dsimp [go_sem]; rfl) (fun q => q)
  have c2 := k1.cell (a := ⟨w.heap.size, 2, none⟩) (by simp -dsimp [go_sem]; rfl) (fun q => q)
  have hlt := k1.size
  simp only [World.size_alloc] at hlt
  have hlt1 : w.heap.size < w1.heap.size := by omega
  by_cases n0 : n < 0
  · simp -dsimp [go_sem, n0]
    exact k1'
  by_cases n1 : 30 < n
  · simp -dsimp [go_sem, n0, n1]
    exact k1'
  by_cases n2 : o.ino < 1
  · simp -dsimp [go_sem, n0, n1, n2, c0, hlt1]
    exact k1'
  obtain ⟨m, rfl⟩ := Int.eq_ofNat_of_zero_le (show 0 ≤ n by omega)
  simp -dsimp [go_sem, n0, n1, n2, c0, hlt1]
  refine (fd_new _).mono ?_; rintro e w2 ⟨rfl, h2, k2⟩; refine ret_intro ?_
  simp -dsimp [go_sem]
  have hm : m ≤ 30 := by omega
  refine loop_intro (σ := Nat) (fun i => [.int .i64 i]) (fun i w' => i ≤ m ∧ At w' w1.heap.size (Lf i) ∧ Keep w1 w') (fun i => m - i) 0 (by simp -dsimp [go_sem]; rfl) (by simp -dsimp [go_sem]) ⟨by simp, h2, k2⟩ ?_
  rintro i w3 ⟨hi, h3, k3⟩
  simp -dsimp [go_sem]
  refine condF_intro (fun g1 => ?_) (fun g1 => ?_)
  · simp at g1
    simp -dsimp [go_sem]; simp -dsimp (disch := omega) only [IntWalk.i64_in, IntWalk.u64_in, IntWalk.u8_in]
    refine (fd_open _ _ ⟨(i : Int) + 1, 0, 0⟩ _ h3).mono ?_; rintro e w4 ⟨rfl, h4, k4⟩; refine ret_intro ?_
    rw [Lf_opens] at h4
    rw [Lf_free]
    by_cases g2 : i < 16
    · have g3 : (i : Int) < 16 := by omega
      have g4 : (1 : Int) ≤ (i : Int) + 1 := by omega
      have g5 : min i 16 = i := by omega
      simp -dsimp [go_sem, g2, g3, g4, g5]
      simp -dsimp (disch := omega) only [IntWalk.i64_in, IntWalk.u64_in, IntWalk.u8_in]
      exact back_intro (i + 1) (by simp -dsimp [go_sem]) (by simp -dsimp [go_sem]) ⟨by omega, h4, k3.keep k4 (by rintro i rfl; exact Nat.le_refl _)⟩ (by omega)
    · have g3 : ¬ (i : Int) < 16 := by omega
      have g5 : min i 16 = 16 := by omega
      simp -dsimp [go_sem, g2, g3, g5]
      simp -dsimp (disch := omega) only [IntWalk.i64_in, IntWalk.u64_in, IntWalk.u8_in]
      exact back_intro (i + 1) (by simp -dsimp [go_sem]) (by simp -dsimp [go_sem]) ⟨by omega, h4, k3.keep k4 (by rintro i rfl; exact Nat.le_refl _)⟩ (by omega)
  · simp at g1
    have : i = m := by omega
    subst this
    simp -dsimp [go_sem]
    have hd : decide (min i 16 = 16) = decide (16 ≤ (i : Int)) := by rw [decide_eq_decide]; omega
    refine (fd_full _ _ _ h3).mono ?_; rintro e w4 ⟨rfl, k4⟩; refine ret_intro ?_
    have h4 := h3.step k4 (fun q => q)
    rw [Lf_opened, hd]
    simp -dsimp [go_sem]
    refine (fd_len _ _ _ h4).mono ?_; rintro e w5 ⟨rfl, k5⟩; refine ret_intro ?_
    have h5 := h4.step k5 (fun q => q)
    rw [Lf_opened]
    simp -dsimp [go_sem]
    have hn : ((min i 16 : Nat) : Int) = if 16 < (i : Int) then 16 else (i : Int) := by split <;> omega
    simp -dsimp [go_sem, hn]
    refine (fd_close _ _ at_ _ h5).mono ?_; rintro e w6 ⟨rfl, h6, k6⟩; refine ret_intro ?_
    have k16 : Keep w1 w6 := ((k3.trans k4).trans k5).keep k6 (by rintro i rfl; exact Nat.le_refl _)
    have d0 := k16.cell c0 (fun q => q)
    have d1 := k16.cell c1 (fun q => q)
    have d2 := k16.cell c2 (fun q => q)
    have dlt := k16.lt hlt1
    by_cases hin : 0 ≤ at_ ∧ at_ < (min i 16 : Nat)
    · obtain ⟨j, rfl⟩ := Int.eq_ofNat_of_zero_le hin.1
      have hx : (Lf i)[j]? = some ⟨(j : Int) + 1, 0, 0⟩ := by rw [Lf_at (by omega), if_pos (by omega)]
      have hg : Fd.get (Lf i) (j : Int) = some ⟨(j : Int) + 1, 0, 0⟩ := by rw [get_in hx, if_neg (by simp; omega)]
      have hfr : free ((Lf i).set j zero) = j := by
        refine free_at (o := zero) (fun k hk => ⟨⟨(k : Int) + 1, 0, 0⟩, ?_, by simp; omega⟩) ?_ rfl
        · rw [List.getElem?_set, if_neg (by omega), Lf_at (by omega), if_pos (by omega)]
        · rw [List.getElem?_set, if_pos rfl, if_pos (by simp [Lf]; omega)]
      have i0 : ¬ (j : Int) < 0 := by omega
      have i1 : (j : Int) < if 16 < (i : Int) then 16 else (i : Int) := by rw [← hn]; omega
      have i3 : ((j : Int) + 1 == (j : Int) + 1) = true := by simp
      unfold closes at h6
      rw [hg, Int.toNat_natCast] at h6
      simp only [Option.isSome_some, if_true] at h6
      rw [hg]
      simp -dsimp [go_sem, gotten, val, i0, i1, hn]
      simp -dsimp (disch := omega) only [IntWalk.i64_in, IntWalk.u64_in, IntWalk.u8_in]
      simp -dsimp [go_sem, d0, d1, d2, dlt]
      refine (fd_open _ _ o _ (h6.alloc _)).mono ?_; rintro e w7 ⟨rfl, h7, k7⟩; refine ret_intro ?_
      rw [hfr]
      have i4 : j < 16 := by omega
      have i5 : 1 ≤ o.ino := by omega
      simp -dsimp [go_sem, i4, i5]
      exact k1'.trans ((k16.alloc _).keep k7 (by rintro i rfl; exact Nat.le_refl _))
    · have hg : Fd.get (Lf i) at_ = none := by
        by_cases ha : 0 ≤ at_ ∧ at_ < 16
        · obtain ⟨j, rfl⟩ := Int.eq_ofNat_of_zero_le ha.1
          have hx : (Lf i)[j]? = some zero := by rw [Lf_at (by omega), if_neg (by omega)]
          rw [get_in hx]; rfl
        · exact get_out (by simp [Lf]) (by omega)
      unfold closes at h6
      rw [hg] at h6
      simp only [Option.isSome_none, Bool.false_eq_true, if_false] at h6
      rw [hg]
      by_cases a0 : at_ < 0
      · have a1 : ¬ 0 ≤ at_ := by omega
        simp -dsimp [go_sem, gotten, val, a0, a1, hn, d0, d1, d2, dlt]
        refine (fd_open _ _ o _ (h6.alloc _)).mono ?_; rintro e w7 ⟨rfl, h7, k7⟩; refine ret_intro ?_
        have kk := k1'.trans ((k16.alloc _).keep k7 (by rintro i rfl; exact Nat.le_refl _))
        rw [Lf_free]
        by_cases g2 : i < 16
        · have g3 : (i : Int) < 16 := by omega
          have g4 : 1 ≤ o.ino := by omega
          have g5 : min i 16 = i := by omega
          simp -dsimp [go_sem, g2, g3, g4, g5]
          exact kk
        · have g3 : ¬ (i : Int) < 16 := by omega
          have g5 : min i 16 = 16 := by omega
          simp -dsimp [go_sem, g2, g3, g5]
          exact kk
      · have a1 : ¬ at_ < (if 16 < (i : Int) then 16 else (i : Int)) := by rw [← hn]; omega
        have a2 : 0 ≤ at_ := by omega
        simp -dsimp [go_sem, gotten, val, a0, a1, a2, hn, d0, d1, d2, dlt]
        refine (fd_open _ _ o _ (h6.alloc _)).mono ?_; rintro e w7 ⟨rfl, h7, k7⟩; refine ret_intro ?_
        have kk := k1'.trans ((k16.alloc _).keep k7 (by rintro i rfl; exact Nat.le_refl _))
        rw [Lf_free]
        by_cases g2 : i < 16
        · have g3 : (i : Int) < 16 := by omega
          have g4 : 1 ≤ o.ino := by omega
          have g5 : min i 16 = i := by omega
          simp -dsimp [go_sem, g2, g3, g4, g5]
          exact kk
        · have g3 : ¬ (i : Int) < 16 := by omega
          have g5 : min i 16 = 16 := by omega
          simp -dsimp [go_sem, g2, g3, g5]
          exact kk
end Go.Proofs.Ythchaodakfnbbaa
