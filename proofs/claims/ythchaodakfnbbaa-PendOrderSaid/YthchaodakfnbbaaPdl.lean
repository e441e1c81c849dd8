/- What is added first goes first, with its own page's number; a list that there isn't has none. -/
import Derived.Test.YthchaodakfnbbaaPend
set_option linter.all false

namespace Go.Proofs.Ythchaodakfnbbaa
open Go.RowKit Rx

/-- What is added, and its number. -/
def ones (l : List Eff) : List POne := l.zipIdx.map (fun x => ⟨x.1.e, x.2 * 3⟩)
theorem ones_len (l : List Eff) : (ones l).length = l.length := by simp [ones]
theorem ones_at {l : List Eff} {i : Nat} {x : Eff} (h : l[i]? = some x) : (ones l)[i]? = some ⟨x.e, i * 3⟩ := by simp [ones, h]
theorem take_next {α : Type} {l : List α} {i : Nat} {x : α} (h : l[i]? = some x) : l.take (i + 1) = l.take i ++ [x] := by rw [List.take_add_one, h]; rfl
theorem drop_next {α : Type} {l : List α} {i : Nat} {x : α} (h : l[i]? = some x) : l.drop i = x :: l.drop (i + 1) := by
  obtain ⟨hi, rfl⟩ := List.getElem?_eq_some_iff.1 h
  exact List.drop_eq_getElem_cons hi
set_option maxRecDepth 100000 in
set_option maxHeartbeats 4000000 in
theorem pend_order_law (a : Option Addr) (l : List Eff) (cap : Nat) (n : Int) (w : World) (hl : SlAt RE 9 w a l) (hm : l.length ≤ maxLen) : Calls Try.prog 7 #[.slice a l.length cap, .int .i64 n] w fun e w' => e = .returned (.bool true) ∧ Keep w w' := by
  have hm' := hm
  unfold maxLen at hm'
  refine calls_rx h7 Try.func7 rfl Try.mixed (by kernel_rfl) Try.results7 ?_
  simp -dsimp [go_sem]
  refine (sumplaw21_awake _).mono ?_; rintro e w1 ⟨rfl, k1⟩; refine ret_intro ?_
  simp -dsimp [go_sem]
  have hl1 := hl.keepE k1
  refine (sumplaw09_Few a l cap _ hl1 hm).mono ?_; rintro e w2 ⟨b, rfl, hb, k2⟩; refine ret_intro ?_
  have hl2 := hl1.keepE k2
  have k02 := Keep.trans k1 k2
  cases b with
  | false =>
    simp -dsimp [go_sem]
    exact k02
  | true =>
    obtain ⟨hfew, -⟩ := hb rfl
    by_cases n0 : n < 0
    · simp -dsimp [go_sem, n0]
      exact k02
    by_cases n1 : (l.length : Int) < n
    · have n2 : ¬ n ≤ l.length := by omega
      simp -dsimp [go_sem, n0, n1, n2]
      exact k02
    obtain ⟨m, rfl⟩ := Int.eq_ofNat_of_zero_le (by omega : 0 ≤ n)
    have n2 : m ≤ l.length := by omega
    have n3 : ¬ (m : Int) < 0 := by omega
    have n4 : ¬ (l.length : Int) < m := by omega
    have n5 : ¬ l.length < m := by omega
    simp -dsimp [go_sem, n3, n4, n5, n2]
    have hq := ones_len l
    generalize hqq : ones l = q at hq
    refine loop_intro (σ := Nat) (fun i => [.int .i64 i]) (fun i w' => i ≤ l.length ∧ (∃ O, Pend.At w' O w2.heap.size (q.take i) 0 ∧ ∀ k, O k → w2.heap.size ≤ k) ∧ Keep w2 w') (fun i => l.length - i) 0 (by simp -dsimp [go_sem]; rfl) (by simp -dsimp [go_sem]) ⟨by simp, ⟨_, pend_new w2, by rintro k rfl; exact Nat.le_refl _⟩, keep_alloc w2 _⟩ ?_
    rintro i w3 ⟨hi, ⟨O, h3, b3⟩, k3⟩
    have hl3 := hl2.keepE k3
    simp -dsimp [go_sem]
    refine condF_intro (fun g1 => ?_) (fun g1 => ?_)
    · simp at g1
      have hx : l[i]? = some l[i] := List.getElem?_eq_getElem _
      generalize l[i] = x at hx
      have hqi := ones_at hx
      rw [hqq] at hqi
      obtain ⟨b, off, d, rfl, hb, ⟨da, dc, rfl, hd⟩, c0, c1, c2, c3, c4, c5, c6, c7, c8⟩ := hl3.eff hx
      have i2 : (i : Int) < l.length := by omega
      simp -dsimp [go_sem, i2, hb, c0, c1, c2, c3, c4, c5, c6, c7, c8]
      simp -dsimp (disch := omega) only [IntWalk.i64_in, IntWalk.u64_in, IntWalk.u8_in]
      have hlen : (q.take i).length = i := by rw [List.length_take]; omega
      refine (pend_Add O _ (q.take i) 0 x.e (.slice da x.data.length dc) ((i : Int) * 3) _ (h3.keep (keep_alloc _ _)) (by omega) (by omega) (by omega)).mono ?_; rintro e w4 ⟨rfl, O4, h4, k4, b4⟩; refine ret_intro ?_
      rw [← take_next hqi] at h4
      simp -dsimp [go_sem]
      simp -dsimp (disch := omega) only [IntWalk.i64_in, IntWalk.u64_in, IntWalk.u8_in]
      refine back_intro (i + 1) (by simp -dsimp [go_sem]) (by simp -dsimp [go_sem]) ⟨by omega, ⟨O4, h4, fun k hk => ?_⟩, (k3.alloc _).keep k4 b3⟩ (by omega)
      rcases b4 k hk with q1 | q1
      · exact b3 k q1
      · exact Nat.le_trans (k3.alloc _).size q1
    · simp at g1
      obtain rfl : i = l.length := by omega
      rw [List.take_of_length_le (by omega)] at h3
      simp -dsimp [go_sem]
      refine loop_intro (σ := Nat) (fun i => [.int .i64 i]) (fun i w' => i ≤ m ∧ Pend.At w' O w2.heap.size (q.drop i) i ∧ Keep w2 w') (fun i => m - i) 0 (by simp -dsimp [go_sem]; rfl) (by simp -dsimp [go_sem]) ⟨by simp, by simpa using h3, k3⟩ ?_
      rintro i w4 ⟨hi, h4, k4⟩
      have hl4 := hl2.keepE k4
      simp -dsimp [go_sem]
      refine condF_intro (fun g2 => ?_) (fun g2 => ?_)
      · simp at g2
        have hx : l[i]? = some l[i] := List.getElem?_eq_getElem _
        generalize l[i] = x at hx
        have hqi := ones_at hx
        rw [hqq] at hqi
        simp -dsimp [go_sem]
        refine (pend_Head O _ _ _ _ h4).mono ?_; rintro e w5 ⟨rfl, k5⟩; refine ret_intro ?_
        have h5 := h4.keep k5
        have hl5 := hl4.keepE k5
        rw [drop_next hqi] at h5 ⊢
        unfold Ef.val Ef.enc
        obtain ⟨b, off, d, rfl, hb, ⟨da, dc, rfl, hd⟩, c0, c1, c2, c3, c4, c5, c6, c7, c8⟩ := hl5.eff hx
        have i2 : (i : Int) < l.length := by omega
        simp -dsimp [go_sem, i2, hb, c0, c1, c2, c3, c4, c5, c6, c7, c8]
        have hw3 : IntKind.i64.wrap ((i : Int) * 3) = i * 3 := by simp -dsimp (disch := omega) only [IntWalk.i64_in, IntWalk.u64_in, IntWalk.u8_in]
        simp -dsimp [go_sem, hw3]
        refine (sumpref09_Same x.e x.e (.slice none 0 0) (.slice none 0 0) [] [] _ (Bytes.none _) (Bytes.none _)).mono ?_; rintro e w6 ⟨rfl, k6⟩; refine ret_intro ?_
        have k06 := Keep.trans (Step.alloc (keep_alloc w5 _) _) k6
        simp -dsimp [go_sem]
        refine (pend_Pop O _ _ _ _ (h5.keep k06) (by omega) (by omega)).mono ?_; rintro e w7 ⟨rfl, h7, k7⟩; refine ret_intro ?_
        simp -dsimp [go_sem]
        simp -dsimp (disch := omega) only [IntWalk.i64_in, IntWalk.u64_in, IntWalk.u8_in]
        refine back_intro (i + 1) (by simp -dsimp [go_sem]) (by simp -dsimp [go_sem]) ⟨by omega, ?_, ?_⟩ (by omega)
        · simpa using h7
        · exact Step.keep (Keep.trans (Keep.trans k4 k5) k06) k7 b3
      · simp at g2
        obtain rfl : i = m := by omega
        simp -dsimp [go_sem]
        refine (pend_Head_nil _).mono ?_; rintro e w5 ⟨rfl, k5⟩; refine ret_intro ?_
        have h5 := h4.keep k5
        unfold Ef.val Ef.enc
        simp -dsimp [go_sem]
        refine (pend_Len _ _ _ _ _ (h5.keep (keep_alloc _ _))).mono ?_; rintro e w6 ⟨rfl, rfl⟩; refine ret_intro ?_
        have y1 : (((q.drop i).length : Nat) : Int) = (l.length : Int) - i := by rw [List.length_drop]; omega
        have y2 : q.length - i = l.length - i := by omega
        have hw4 : IntKind.i64.wrap ((l.length : Int) - i) = ((q.length - i : Nat) : Int) := by
          rw [show ((q.length - i : Nat) : Int) = (l.length : Int) - i from by omega]; simp -dsimp (disch := omega) only [IntWalk.i64_in, IntWalk.u64_in, IntWalk.u8_in]
        simp -dsimp [go_sem, hw4]
        refine (pend_Gone _ _ _ _ _ (h5.keep (keep_alloc _ _))).mono ?_; rintro e w6 ⟨rfl, rfl⟩; refine ret_intro ?_
        simp -dsimp [go_sem]
        refine (pend_Pop_nil _).mono ?_; rintro e w6 ⟨rfl, rfl⟩; refine ret_intro ?_
        simp -dsimp [go_sem]
        refine (pend_Add_nil ⟨0, 0, 0, 0, 0, 0, .empty, .empty⟩ (.slice none 0 0) 1 _).mono ?_; rintro e w7 ⟨rfl, k7⟩; refine ret_intro ?_
        simp -dsimp [go_sem]
        refine (pend_Len_nil _).mono ?_; rintro e w8 ⟨rfl, rfl⟩; refine ret_intro ?_
        simp -dsimp [go_sem]
        refine (pend_Gone_nil _).mono ?_; rintro e w8 ⟨rfl, rfl⟩; refine ret_intro ?_
        simp -dsimp [go_sem]
        refine (pend_Next_nil _).mono ?_; rintro e w8 ⟨rfl, rfl⟩; refine ret_intro ?_
        simp -dsimp [go_sem]
        refine (pend_Last_nil 1 _).mono ?_; rintro e w8 ⟨rfl, rfl⟩; refine ret_intro ?_
        simp -dsimp [go_sem]
        refine (pend_All_nil _).mono ?_; rintro e w8 ⟨rfl, rfl⟩; refine ret_intro ?_
        simp -dsimp [go_sem]
        have w0 : IntKind.i64.wrap 0 = 0 := by decide
        refine ⟨by simp only [w0], ?_⟩
        exact Keep.trans k02 (Keep.trans k4 (Keep.trans (Step.alloc k5 _) k7))
end Go.Proofs.Ythchaodakfnbbaa
