/- Package fd: what each method of a table of open files does to the list of its sixteen places. -/
import Derived.Test.YthchaodakfnbbaaBase
import Derived.Test.YthchaodakfnbbaaHints
import Derived.Test.YthchaodakfnbbaaRows
set_option linter.all false
namespace Go.Proofs.Ythchaodakfnbbaa
open Go.RowKit Rx

theorem Try.mixed : Try.prog.follows .mixedOrders = true := by kernel_rfl

structure Opn where
  ino : Int
  off : Int
  flags : Int
  deriving DecidableEq
instance : Inhabited Opn := ⟨⟨0, 0, 0⟩⟩
namespace Fd
def zero : Opn := ⟨0, 0, 0⟩
def enc (o : Opn) : List Value := [.int .i64 o.ino, .int .i64 o.off, .int .i64 o.flags]
def val (o : Opn) : Value := .agg #[.int .i64 o.ino, .int .i64 o.off, .int .i64 o.flags]
theorem enc_len (o : Opn) : (enc o).length = 3 := rfl
/-- The table's block: made, and sixteen places. -/
def tab (l : List Opn) : Array Value := (Value.int .i64 1 :: l.flatMap enc).toArray
structure At (w : World) (b : Nat) (l : List Opn) : Prop where
  blk : w.heap[b]? = some (.cells (tab l) 63 (0, 0))
  len : l.length = 16
theorem At.made {w : World} {b : Nat} {l : List Opn} (h : At w b l) : w.cell? ⟨b, 0, none⟩ = some (.int .i64 1) := by rw [blk_cell h.blk]; simp [tab]
theorem At.lt {w : World} {b : Nat} {l : List Opn} (h : At w b l) : b < w.heap.size := blk_lt h.blk
theorem tab_at (l : List Opn) (i j : Nat) (hj : j < 3) : (tab l)[1 + i * 3 + j]? = (l[i]?).bind (fun x => (enc x)[j]?) := by
  rw [show 1 + i * 3 + j = (i * 3 + j) + 1 from by omega]
  simp only [tab, List.getElem?_toArray, List.getElem?_cons_succ]
  exact rows_at enc 3 enc_len (by omega) l i j hj
theorem At.cells {w : World} {b : Nat} {l : List Opn} (h : At w b l) {i : Nat} {o : Opn} (ho : l[i]? = some o) :
    w.cell? ⟨b, 1 + i * 3, none⟩ = some (.int .i64 o.ino) ∧ w.cell? ⟨b, 1 + i * 3 + 1, none⟩ = some (.int .i64 o.off) ∧ w.cell? ⟨b, 1 + i * 3 + 2, none⟩ = some (.int .i64 o.flags) := by
  have h0 := tab_at l i 0 (by omega)
  have h1 := tab_at l i 1 (by omega)
  have h2 := tab_at l i 2 (by omega)
  rw [ho] at h0 h1 h2
  rw [blk_cell h.blk, blk_cell h.blk, blk_cell h.blk]
  exact ⟨h0, h1, h2⟩
theorem At.step {w w' : World} {O : Nat → Prop} {b : Nat} {l : List Opn} (h : At w b l) (hs : Step O w w') (hn : ¬ O b) : At w' b l := ⟨hs.blk h.blk hn, h.len⟩
theorem At.alloc {w : World} {b : Nat} {l : List Opn} (h : At w b l) (o : Obj) : At (w.alloc o) b l := h.step (keep_alloc _ _) (fun q => q)
theorem At.drew {w : World} {b : Nat} {l : List Opn} (h : At w b l) : At w.drew b l := ⟨h.blk, h.len⟩
/-- A place is written. -/
def put3 (w : World) (b i : Nat) (o : Opn) : World := ((w.setCell ⟨b, 1 + i * 3, none⟩ (.int .i64 o.ino)).setCell ⟨b, 1 + i * 3 + 1, none⟩ (.int .i64 o.off)).setCell ⟨b, 1 + i * 3 + 2, none⟩ (.int .i64 o.flags)
theorem tab_set (l : List Opn) (i : Nat) (o : Opn) (hi : i < l.length) :
    (((tab l).setIfInBounds (1 + i * 3) (.int .i64 o.ino)).setIfInBounds (1 + i * 3 + 1) (.int .i64 o.off)).setIfInBounds (1 + i * 3 + 2) (.int .i64 o.flags) = tab (l.set i o) := by
  have hl : (l.flatMap enc).length = l.length * 3 := rows_length enc 3 enc_len l
  apply Array.ext_getElem?
  intro k
  have sz : (tab l).size = l.length * 3 + 1 := by simp [tab, hl]
  simp only [Array.getElem?_setIfInBounds, Array.size_setIfInBounds, sz]
  by_cases h0 : k = 0
  · subst h0
    rw [if_neg (by omega), if_neg (by omega), if_neg (by omega)]
    simp [tab]
  · obtain ⟨q, r, hr, rfl⟩ : ∃ q r, r < 3 ∧ k = 1 + q * 3 + r := ⟨(k - 1) / 3, (k - 1) % 3, Nat.mod_lt _ (by omega), by omega⟩
    rw [tab_at _ _ _ hr, tab_at _ _ _ hr, List.getElem?_set]
    by_cases hq : i = q
    · subst hq
      rw [if_pos rfl, if_pos hi]
      rcases (by omega : r = 0 ∨ r = 1 ∨ r = 2) with rfl | rfl | rfl
      · rw [if_neg (by omega), if_neg (by omega), if_pos (by omega), if_pos (by omega)]; rfl
      · rw [if_neg (by omega), if_pos (by omega), if_pos (by omega)]; rfl
      · rw [if_pos (by omega), if_pos (by omega)]; rfl
    · rw [if_neg hq, if_neg (by omega), if_neg (by omega), if_neg (by omega)]
theorem At.put {w : World} {b : Nat} {l : List Opn} (h : At w b l) {i : Nat} (hi : i < 16) (o : Opn) : At (put3 w b i o) b (l.set i o) := by
  refine ⟨?_, by simp [h.len]⟩
  rw [← tab_set l i o (by rw [h.len]; exact hi)]
  exact blk_set (blk_set (blk_set h.blk _ _) _ _) _ _
theorem put_step (w : World) (b i : Nat) (o : Opn) : Step (· = b) w (put3 w b i o) := (((Step.refl (fun k => k = b) w).set (p := ⟨b, 1 + i * 3, none⟩) (.inl rfl) _).set (p := ⟨b, 1 + i * 3 + 1, none⟩) (.inl rfl) _).set (p := ⟨b, 1 + i * 3 + 2, none⟩) (.inl rfl) _

/-- The first place that isn't open; 16: none. -/
def free (l : List Opn) : Nat := l.findIdx (fun o => decide (o.ino = 0))
def get (l : List Opn) (fd : Int) : Option Opn := if 0 ≤ fd then (l[fd.toNat]?).filter (fun o => !decide (o.ino = 0)) else none
theorem free_at {l : List Opn} {i : Nat} {o : Opn} (hk : ∀ k < i, ∃ o, l[k]? = some o ∧ ¬ o.ino = 0) (ho : l[i]? = some o) (h0 : o.ino = 0) : free l = i := by
  have hi := (List.getElem?_eq_some_iff.1 ho)
  refine (List.findIdx_eq hi.1).2 ⟨by simp [hi.2, h0], fun j hj => ?_⟩
  obtain ⟨o', h1, h2⟩ := hk j hj
  have := (List.getElem?_eq_some_iff.1 h1).2
  simp [this, h2]
theorem free_all {l : List Opn} (hk : ∀ k < l.length, ∃ o, l[k]? = some o ∧ ¬ o.ino = 0) : free l = l.length := by
  refine List.findIdx_eq_length.2 fun x hx => ?_
  obtain ⟨k, hk', rfl⟩ := List.mem_iff_getElem.1 hx
  obtain ⟨o, h1, h2⟩ := hk k hk'
  have := (List.getElem?_eq_some_iff.1 h1).2
  rw [this]; simp [h2]
theorem At.some {w : World} {b : Nat} {l : List Opn} (h : At w b l) {i : Nat} (hi : i < 16) : ∃ o, l[i]? = some o := ⟨l[i]'(by rw [h.len]; exact hi), List.getElem?_eq_getElem _⟩
theorem get_out {l : List Opn} (hl : l.length = 16) {fd : Int} (h : fd < 0 ∨ 16 ≤ fd) : get l fd = none := by
  unfold get
  rcases h with h | h
  · rw [if_neg (by omega)]
  · rw [if_pos (by omega), List.getElem?_eq_none (by omega)]; rfl
theorem get_in {l : List Opn} {i : Nat} {o : Opn} (ho : l[i]? = some o) : get l (i : Int) = if o.ino = 0 then none else some o := by
  unfold get
  rw [if_pos (by omega), Int.toNat_natCast, ho]
  by_cases h : o.ino = 0 <;> simp [h]
def gotten (o : Option Opn) : Value := .tuple #[val (o.getD zero), .bool o.isSome]
end Fd
open Go.Proofs.Ythchaodakfnbbaa.Fd

/-! The methods. -/
theorem fd_ok (b : Nat) (l : List Opn) (w : World) (h : At w b l) :
    Calls Try.prog 31 #[.pointer (some ⟨b, 0, none⟩)] w fun e w' => e = .returned (.bool true) ∧ w = w' := by
  have hc := h.made
  refine calls_rx h31 Try.func31 rfl Try.mixed (by kernel_rfl) Try.results31 ?_
  simp -dsimp [go_sem, hc]
theorem fd_ok_nil (w : World) : Calls Try.prog 31 #[.pointer none] w fun e w' => e = .returned (.bool false) ∧ w = w' := by
  refine calls_rx h31 Try.func31 rfl Try.mixed (by kernel_rfl) Try.results31 ?_
  simp -dsimp [go_sem]

theorem fd_next (b : Nat) (l : List Opn) (w : World) (h : At w b l) :
    Calls Try.prog 14 #[.pointer (some ⟨b, 0, none⟩)] w fun e w' => e = .returned (.tuple #[.int .i64 (if free l < 16 then (free l : Int) else 0), .bool (decide (free l < 16))]) ∧ w = w' := by
  refine calls_rx h14 Try.func14 rfl Try.mixed (by kernel_rfl) Try.results14 ?_
  simp -dsimp [go_sem]
  refine scope_intro (σ := Nat) (fun i => [.int .i64 i]) (fun i w' => w = w' ∧ i ≤ 16 ∧ ∀ k < i, ∃ o, l[k]? = some o ∧ ¬ o.ino = 0) (fun i => 16 - i) 17 [(0, (true, .pointer (some ⟨b, 0, none⟩)))] ?_ ?_
  · simp -dsimp [go_sem]
    refine (fd_ok b l _ h).mono ?_; rintro e w' ⟨rfl, rfl⟩; refine ret_intro ?_
    obtain ⟨o, ho⟩ := h.some (i := 0) (by omega)
    have c0 := (h.cells ho).1
    simp only [Nat.zero_mul, Nat.add_zero] at c0
    simp -dsimp [go_sem, c0]
    refine condF_intro (fun h1 => ?_) (fun h1 => ?_)
    · simp at h1
      simp -dsimp [go_sem]; simp -dsimp (disch := omega) only [IntWalk.i64_in, IntWalk.u64_in, IntWalk.u8_in]
      refine back_intro 1 (by simp -dsimp [go_sem]) (by simp -dsimp [go_sem]) ⟨rfl, by omega, fun k hk => ⟨o, by rw [show k = 0 from by omega]; exact ho, h1⟩⟩ (by omega)
    · simp at h1
      have := free_at (i := 0) (fun k hk => absurd hk (by omega)) ho h1
      simp -dsimp [go_sem, this]
  · rintro i w' ⟨rfl, hi, hk⟩
    simp -dsimp [go_sem]
    refine condF_intro (fun h1 => ?_) (fun h1 => ?_)
    · simp at h1
      have := free_all (l := l) (by rw [h.len]; exact fun k hk' => hk k (by omega))
      rw [h.len] at this
      simp -dsimp [go_sem, this]
    · simp at h1
      obtain ⟨o, ho⟩ := h.some (i := i) (by omega)
      have c0 := (h.cells ho).1
      have i2 : (i : Int) < 16 := by omega
      simp -dsimp [go_sem, c0, i2]
      refine condF_intro (fun h2 => ?_) (fun h2 => ?_)
      · simp at h2
        simp -dsimp [go_sem]; simp -dsimp (disch := omega) only [IntWalk.i64_in, IntWalk.u64_in, IntWalk.u8_in]
        refine back_intro (i + 1) (by simp -dsimp [go_sem]) (by simp -dsimp [go_sem]) ⟨rfl, by omega, fun k hk' => ?_⟩ (by omega)
        by_cases hki : k = i
        · subst hki; exact ⟨o, ho, h2⟩
        · exact hk k (by omega)
      · simp at h2
        have hf := free_at hk ho h2
        have i3 : i < 16 := by omega
        simp -dsimp [go_sem, hf, i3]

theorem fd_new (w : World) : Calls Try.prog 9 #[] w fun e w' => e = .returned (.pointer (some ⟨w.heap.size, 0, none⟩)) ∧ At w' w.heap.size (List.replicate 16 zero) ∧ Keep w w' := by
  refine calls_rx h9 Try.func9 rfl Try.mixed (by kernel_rfl) Try.results9 ?_
  simp -dsimp [go_sem]
  exact ⟨⟨heap_alloc_new w _, rfl⟩, keep_alloc _ _⟩

theorem fd_get (b : Nat) (l : List Opn) (fd : Int) (w : World) (h : At w b l) :
    Calls Try.prog 18 #[.pointer (some ⟨b, 0, none⟩), .int .i64 fd] w fun e w' => e = .returned (gotten (get l fd)) ∧ Keep w w' := by
  by_cases hin : 0 ≤ fd ∧ fd < 16
  · obtain ⟨i, rfl⟩ := Int.eq_ofNat_of_zero_le hin.1
    obtain ⟨o, ho⟩ := h.some (i := i) (by omega)
    obtain ⟨c0, c1, c2⟩ := h.cells ho
    have i0 : ¬ (i : Int) < 0 := by omega
    have i1 : ¬ 16 ≤ (i : Int) := by omega
    have i2 : (i : Int) < 16 := by omega
    have hb := h.lt
    rw [get_in ho]
    refine calls_rx h18 Try.func18 rfl Try.mixed (by kernel_rfl) Try.results18 ?_
    simp -dsimp [go_sem]
    refine (fd_ok b l _ (h.step (keep_alloc _ _) (fun q => q))).mono ?_; rintro e w' ⟨rfl, rfl⟩; refine ret_intro ?_
    by_cases hz : o.ino = 0
    · simp -dsimp [go_sem, i0, i1, i2, c0, hb, hz]
      exact ⟨rfl, keep_alloc _ _⟩
    · simp -dsimp [go_sem, i0, i1, i2, c0, c1, c2, hb, hz]
      exact ⟨rfl, keep_alloc _ _⟩
  · rw [get_out h.len (by omega)]
    refine calls_rx h18 Try.func18 rfl Try.mixed (by kernel_rfl) Try.results18 ?_
    simp -dsimp [go_sem]
    refine (fd_ok b l _ (h.step (keep_alloc _ _) (fun q => q))).mono ?_; rintro e w' ⟨rfl, rfl⟩; refine ret_intro ?_
    by_cases h1 : fd < 0
    · simp -dsimp [go_sem, h1]
      exact ⟨rfl, keep_alloc _ _⟩
    · have h2 : 16 ≤ fd := by omega
      simp -dsimp [go_sem, h1, h2]
      exact ⟨rfl, keep_alloc _ _⟩

namespace Fd
/-- What an open does. -/
def opens (l : List Opn) (o : Opn) : List Opn := if free l < 16 ∧ 1 ≤ o.ino then l.set (free l) o else l
def sets (l : List Opn) (fd : Int) (o : Opn) : List Opn := if (get l fd).isSome ∧ 1 ≤ o.ino then l.set fd.toNat o else l
def closes (l : List Opn) (fd : Int) : List Opn := if (get l fd).isSome then l.set fd.toNat zero else l
theorem get_some {l : List Opn} {fd : Int} (h : (get l fd).isSome = true) : 0 ≤ fd ∧ fd.toNat < l.length := by
  unfold get at h
  split at h
  · rename_i h0
    refine ⟨h0, ?_⟩
    cases hx : l[fd.toNat]? with
    | none => rw [hx] at h; simp at h
    | some o => exact (List.getElem?_eq_some_iff.1 hx).1
  · simp at h
end Fd

theorem fd_open (b : Nat) (l : List Opn) (o : Opn) (w : World) (h : At w b l) :
    Calls Try.prog 10 #[.pointer (some ⟨b, 0, none⟩), val o] w fun e w' =>
      e = .returned (.tuple #[.int .i64 (if free l < 16 ∧ 1 ≤ o.ino then (free l : Int) else 0), .bool (decide (free l < 16 ∧ 1 ≤ o.ino))]) ∧ At w' b (opens l o) ∧ Step (fun k => k = b) w w' := by
  have hb := h.lt
  have h' : ∀ x, At (w.alloc x) b l := fun x => h.step (keep_alloc _ _) (fun q => q)
  unfold val opens
  refine calls_rx h10 Try.func10 rfl Try.mixed (by kernel_rfl) Try.results10 ?_
  simp -dsimp [go_sem]
  refine (fd_next b l _ (h' _)).mono ?_; rintro e w' ⟨rfl, rfl⟩; refine ret_intro ?_
  by_cases h1 : free l < 16
  · by_cases h2 : o.ino < 1
    · have h3 : ¬ 1 ≤ o.ino := by omega
      simp -dsimp [go_sem, h1, h2, h3]
      exact ⟨h' _, (keep_alloc _ _).any⟩
    · have h3 : 1 ≤ o.ino := by omega
      have h4 : (free l : Int) < 16 := by omega
      obtain ⟨x, hx⟩ := h.some h1
      obtain ⟨c0, c1, c2⟩ := h.cells hx
      have hf := blk_free h.blk
      simp -dsimp [go_sem, h1, h2, h3, h4, hb, c0, c1, c2, hf]
      exact ⟨((h.put h1 o).step (keep_alloc _ _) (fun q => q)).drew, ((put_step w b _ o).then (keep_alloc _ _)).drew⟩
  · simp -dsimp [go_sem, h1]
    exact ⟨h' _, (keep_alloc _ _).any⟩

theorem fd_set (b : Nat) (l : List Opn) (fd : Int) (o : Opn) (w : World) (h : At w b l) :
    Calls Try.prog 15 #[.pointer (some ⟨b, 0, none⟩), .int .i64 fd, val o] w fun e w' =>
      e = .returned (.bool (decide ((get l fd).isSome ∧ 1 ≤ o.ino))) ∧ At w' b (sets l fd o) ∧ Step (fun k => k = b) w w' := by
  have hb := h.lt
  have h' : ∀ x, At (w.alloc x) b l := fun x => h.step (keep_alloc _ _) (fun q => q)
  unfold val sets
  refine calls_rx h15 Try.func15 rfl Try.mixed (by kernel_rfl) Try.results15 ?_
  simp -dsimp [go_sem]
  refine (fd_get b l fd _ (h' _)).mono ?_; rintro e w1 ⟨rfl, hk⟩; refine ret_intro ?_
  have hk' := (keep_alloc w _).trans hk
  have hw1 := h.step hk' (fun q => q)
  have c0 := hk.cell (a := ⟨w.heap.size, 0, none⟩) (by simp -dsimp [go_sem]; rfl) (fun q => q)
  have c1 := hk.cell (a := ⟨w.heap.size, 1, none⟩) (by simp -dsimp [go_sem]; rfl) (fun q => q)
  have c2 := hk.cell (a := ⟨w.heap.size, 2, none⟩) (by simp -dsimp [go_sem]; rfl) (fun q => q)
  have hsz := hk.size
  simp only [World.size_alloc] at hsz
  have hlt : w.heap.size < w1.heap.size := by omega
  by_cases h1 : (get l fd).isSome = true
  · obtain ⟨g0, g1⟩ := get_some h1
    obtain ⟨i, rfl⟩ := Int.eq_ofNat_of_zero_le g0
    rw [Int.toNat_natCast] at *
    by_cases h2 : o.ino < 1
    · have h3 : ¬ 1 ≤ o.ino := by omega
      simp -dsimp [go_sem, gotten, val, hlt, h1, h2, h3, c0]
      exact ⟨hw1.alloc _, Keep.any (hk'.alloc _)⟩
    · have h3 : 1 ≤ o.ino := by omega
      have hl := h.len
      have i0 : (0 : Int) ≤ i := by omega
      have i2 : (i : Int) < 16 := by omega
      obtain ⟨x, hx⟩ := h.some (i := i) (by omega)
      obtain ⟨d0, d1, d2⟩ := hw1.cells hx
      have hf := blk_free hw1.blk
      have hb1 := hw1.lt
      simp -dsimp [go_sem, gotten, val, hlt, h1, h2, h3, c0, c1, c2, i0, i2, d0, d1, d2, hf, hb1]
      exact ⟨((hw1.put (i := i) (by omega) o).alloc _).drew, (((Keep.any hk').both (put_step w1 b _ o)).alloc _).drew⟩
  · have h2 : (get l fd).isSome = false := by simpa using h1
    simp -dsimp [go_sem, gotten, val, hlt, h2]
    exact ⟨hw1.alloc _, Keep.any (hk'.alloc _)⟩
end Go.Proofs.Ythchaodakfnbbaa
