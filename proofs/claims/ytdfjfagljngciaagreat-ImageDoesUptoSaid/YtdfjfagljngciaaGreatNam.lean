/- Packages name and effect: whether a name, an effect may be; the document's answers. -/
import Derived.Test.YtdfjfagljngciaaGreatDirs
import Derived.Test.YtdfjfagljngciaaGreatShelf
set_option linter.all false
set_option maxRecDepth 100000
set_option maxHeartbeats 4000000
namespace Go.Proofs.YtdfjfagljngciaaGreat
open Go.RowKit Rx

def nameC (s : ByteArray) : Int :=
  if s = ⟨#[]⟩ ∨ s = ⟨#[46]⟩ ∨ s = ⟨#[46, 46]⟩ then 22
  else if (47 : UInt8) ∈ s.data.toList ∨ (0 : UInt8) ∈ s.data.toList then 22
  else if 24 < s.size then 36 else 0
theorem has_byte : ∀ (l : List UInt8) (c : UInt8), (0 ≤ Lib.indexByte l c) ↔ c ∈ l
  | [], c => by simp [Lib.indexByte]
  | b :: l, c => by
    have ih := has_byte l c
    have h1 := Lib.indexByte_ge l c
    unfold Lib.indexByte
    by_cases h : b = c
    · simp [h]
    · rw [if_neg (by simpa using h)]
      have hc : c ≠ b := fun q => h q.symm
      simp only [List.mem_cons, hc, false_or, ← ih]
      by_cases h2 : Lib.indexByte l c = -1
      · simp [h2]
      · rw [if_neg (by simpa using h2)]; omega
theorem name_Check (s : ByteArray) (w : World) : Calls Tryz.prog 132 #[.string s] w fun e w' => e = .returned (.int .i64 (nameC s)) ∧ w = w' := by
  refine calls_rx h132 Tryz.func132 rfl Tryz.mixed (by kernel_rfl) Tryz.results132 ?_
  unfold nameC
  simp -dsimp [go_sem]
  refine condF_intro (fun g1 => ?_) (fun g1 => ?_)
  · simp [or_assoc] at g1
    rw [if_pos (by simpa [or_assoc] using g1)]
    simp -dsimp [go_sem]
  · simp [not_or, and_assoc] at g1
    rw [if_neg (by simpa [not_or, and_assoc] using g1)]
    simp -dsimp [go_sem]
    refine (Tryz.strings_Contains_one s 47 w).mono ?_; rintro _ w1 ⟨rfl, rfl⟩; refine ret_intro ?_
    simp only [has_byte]
    by_cases g2 : (47 : UInt8) ∈ s.data.toList
    · rw [if_pos (.inl g2)]
      simp -dsimp [go_sem, g2]
    simp -dsimp [go_sem, g2]
    refine (Tryz.strings_Contains_one s 0 _).mono ?_; rintro _ w1 ⟨rfl, rfl⟩; refine ret_intro ?_
    simp only [has_byte]
    by_cases g3 : (0 : UInt8) ∈ s.data.toList
    · rw [if_pos (.inr g3)]
      simp -dsimp [go_sem, g3]
    rw [if_neg (by simp only [g2, g3, or_self, not_false_eq_true])]
    by_cases g4 : (24 : Int) < s.size
    · rw [if_pos (by omega)]
      simp -dsimp [go_sem, g3, g4]
    · rw [if_neg (by omega)]
      simp -dsimp [go_sem, g3, g4]
theorem ref_Name (s : ByteArray) (hs : s.size < 2 ^ 62) (w : World) : Calls Tryz.prog 89 #[.string s] w fun e w' => e = .returned (.int .i64 (nameC s)) ∧ w = w' := by
  refine calls_rx h89 Tryz.func89 rfl Tryz.mixed (by kernel_rfl) Tryz.results89 ?_
  unfold nameC
  simp -dsimp [go_sem]
  refine condF_intro (fun g1 => ?_) (fun g1 => ?_)
  · simp [or_assoc] at g1
    rw [if_pos (by simpa [or_assoc] using g1)]
    simp -dsimp [go_sem]
  · simp [not_or, and_assoc] at g1
    rw [if_neg (by simpa [not_or, and_assoc] using g1)]
    simp -dsimp [go_sem]
    refine loop_intro (σ := Nat) (fun i => [.int .i64 i]) (fun i w' => i ≤ s.size ∧ w = w' ∧ ∀ b ∈ s.data.toList.take i, b ≠ 47 ∧ b ≠ 0) (fun i => s.size - i) 0 (by simp -dsimp [go_sem]; rfl) (by simp -dsimp [go_sem]) ⟨by omega, rfl, by simp⟩ ?_
    rintro i w1 ⟨hi, rfl, hb⟩
    simp -dsimp [go_sem]
    refine condF_intro (fun c1 => ?_) (fun c1 => ?_)
    · simp at c1
      simp -dsimp [go_sem, c1]
      have hget : s.data.toList[i]? = some s[i] := by
        rw [List.getElem?_eq_getElem (by simpa using c1)]; rfl
      generalize hsb : s[i] = b at hget ⊢
      by_cases d1 : b = 47
      · subst d1
        rw [if_pos (.inl (List.mem_of_getElem? hget))]
        simp -dsimp [go_sem]
      have d1' : ¬ (b.toNat : Int) = 47 := fun q => d1 (by apply UInt8.toNat.inj; simpa using (by omega : b.toNat = 47))
      by_cases d2 : b = 0
      · subst d2
        rw [if_pos (.inr (List.mem_of_getElem? hget))]
        simp -dsimp [go_sem, c1, hsb, d1']
      have d2' : ¬ b.toNat = 0 := fun q => d2 (by apply UInt8.toNat.inj; simpa using q)
      simp -dsimp [go_sem, c1, hsb, d1', d2']
      try simp -dsimp (disch := omega) only [IntWalk.i64_in, IntWalk.u64_in, IntWalk.u8_in]
      refine back_intro (i + 1) (by simp -dsimp [go_sem]) (by simp -dsimp [go_sem]) ⟨by omega, rfl, fun x hx => ?_⟩ (by omega)
      rw [List.take_add_one, hget] at hx
      rcases List.mem_append.1 hx with q | q
      · exact hb x q
      · simp at q; subst q; exact ⟨d1, d2⟩
    · simp at c1
      obtain rfl : i = s.size := by omega
      rw [List.take_of_length_le (by simp)] at hb
      rw [if_neg (fun q => by rcases q with q | q; exact (hb _ q).1 rfl; exact (hb _ q).2 rfl)]
      by_cases g4 : (24 : Int) < s.size
      · rw [if_pos (by omega)]
        simp -dsimp [go_sem, g4]
      · rw [if_neg (by omega)]
        simp -dsimp [go_sem, g4]
end Go.Proofs.YtdfjfagljngciaaGreat
