/- What is opened is open as it was opened till it is closed. -/
import Derived.Test.YthchaodakfnbbaaFdl
import Derived.Test.YthchaodakfnbbaaSl
set_option linter.all false
namespace Go.Proofs.Ythchaodakfnbbaa
open Go.RowKit Rx Go.Proofs.Ythchaodakfnbbaa.Fd

def Fd.RO (_ : World) (o : Opn) (cs : List Value) : Prop := cs = enc o
theorem Fd.RO.at {w : World} {b off : Nat} {l : List Opn} {i : Nat} {o : Opn} (h : ∀ i x, l[i]? = some x → ∃ cs, cs.length = 3 ∧ RO w x cs ∧ ∀ j u, cs[j]? = some u → w.cell? ⟨b, off + i * 3 + j, none⟩ = some u) (ho : l[i]? = some o) :
    w.cell? ⟨b, off + i * 3, none⟩ = some (.int .i64 o.ino) ∧ w.cell? ⟨b, off + i * 3 + 1, none⟩ = some (.int .i64 o.off) ∧ w.cell? ⟨b, off + i * 3 + 2, none⟩ = some (.int .i64 o.flags) := by
  obtain ⟨cs, -, rfl, h3⟩ := h i o ho
  exact ⟨h3 0 _ rfl, h3 1 _ rfl, h3 2 _ rfl⟩

theorem Fd.free_zero {m : List Opn} (hm : m.length = 16) (hf : free m < 16) : ∃ x, m[free m]? = some x ∧ x.ino = 0 := by
  have h1 : m.findIdx (fun o => decide (o.ino = 0)) < m.length := by unfold free at hf; omega
  have h2 := List.findIdx_getElem (w := h1)
  exact ⟨_, List.getElem?_eq_getElem h1, by simpa using h2⟩
theorem Fd.get_back {m : List Opn} (hm : m.length = 16) (hf : free m < 16) (o : Opn) (fd : Int) : Fd.get ((m.set (free m) o).set (free m) zero) fd = Fd.get m fd := by
  obtain ⟨x, hx, h0⟩ := free_zero hm hf
  unfold Fd.get
  by_cases h : 0 ≤ fd
  · rw [if_pos h, if_pos h, List.set_set]
    by_cases he : free m = fd.toNat
    · rw [← he, hx, List.getElem?_set, if_pos rfl, if_pos (by omega)]
      simp [Option.filter, zero, h0]
    · rw [List.getElem?_set, if_neg he]
  · rw [if_neg h, if_neg h]
theorem Fd.get_new {m : List Opn} (hm : m.length = 16) (hf : free m < 16) {o : Opn} (ho : 1 ≤ o.ino) : Fd.get (m.set (free m) o) (free m : Int) = some o := by
  rw [get_in (o := o) (by rw [List.getElem?_set, if_pos rfl, if_pos (by omega)]), if_neg (by omega)]

set_option maxHeartbeats 2000000 in
theorem fd_opens_law (a : Option Addr) (l : List Opn) (cap : Nat) (o : Opn) (fds : Int) (w : World) (hl : SlAt RO 3 w a l) (hm : l.length ≤ maxLen) : Calls Try.prog 5 #[.slice a l.length cap, val o, .int .i64 fds] w fun e w' => e = .returned (.bool true) ∧ Keep w w' := by
  unfold maxLen at hm
  unfold val
  refine calls_rx h5 Try.func5 rfl Try.mixed (by kernel_rfl) Try.results5 ?_
  simp -dsimp [go_sem]
  refine (fd_awake _).mono ?_; rintro e w1 ⟨rfl, k1⟩; refine ret_intro ?_
  have k1' := (keep_alloc _ _).trans k1
  by_cases n0 : 30 < (l.length : Int)
  · simp -dsimp [go_sem, n0]
    exact k1'
  simp -dsimp [go_sem, n0]
  refine (fd_new _).mono ?_; rintro e w2 ⟨rfl, h2, k2⟩; refine ret_intro ?_
  simp -dsimp [go_sem]
  refine loop_intro (σ := Nat) (fun i => [.int .i64 i]) (fun i w' => i ≤ l.length ∧ (∃ m, At w' w1.heap.size m) ∧ Keep w1 w') (fun i => l.length - i) 0 (by simp -dsimp [go_sem]; rfl) (by simp -dsimp [go_sem]) ⟨by simp, ⟨_, h2⟩, k2⟩ ?_
  rintro i w3 ⟨hi, ⟨m, h3⟩, k3⟩
  have hl3 := hl.keep (k1'.trans k3) (fun _ _ q => q)
  simp -dsimp [go_sem]
  refine condF_intro (fun g1 => ?_) (fun g1 => ?_)
  · simp at g1
    obtain ⟨b, off, rfl, hb, hc⟩ := hl3 (by omega)
    have ho : l[i]? = some l[i] := List.getElem?_eq_getElem _
    obtain ⟨c0, c1, c2⟩ := Fd.RO.at hc ho
    have i2 : (i : Int) < l.length := by omega
    simp -dsimp [go_sem, i2, c0, c1, c2, hb]
    refine (fd_open _ _ l[i] _ (h3.alloc _)).mono ?_; rintro e w4 ⟨rfl, h4, k4⟩; refine ret_intro ?_
    simp -dsimp [go_sem]; simp -dsimp (disch := omega) only [IntWalk.i64_in, IntWalk.u64_in, IntWalk.u8_in]
    exact back_intro (i + 1) (by simp -dsimp [go_sem]) (by simp -dsimp [go_sem]) ⟨by omega, ⟨_, h4⟩, (k3.alloc _).keep k4 (by rintro i rfl; exact Nat.le_refl _)⟩ (by omega)
  · simp at g1
    have : i = l.length := by omega
    subst this
    simp -dsimp [go_sem]
    refine (fd_get _ _ fds _ h3).mono ?_; rintro e w4 ⟨rfl, k4⟩; refine ret_intro ?_
    have h4 := h3.step k4 (fun q => q)
    have k14 := k3.trans k4
    have B4 := k14.blk (k1.blk (heap_alloc_new w _) (fun q => q)) (fun q => q)
    have C4 := blk_cell B4
    have L4 := blk_lt B4
    have hlen := h3.len
    generalize hgm : Fd.get m fds = gm
    simp -dsimp [go_sem, gotten, val, C4, L4]
    refine (fd_open _ _ o _ (h4.alloc _)).mono ?_; rintro e w5 ⟨rfl, h5, k5⟩; refine ret_intro ?_
    have L11 : w.heap.size ≠ w1.heap.size := by have := blk_lt (k1.blk (heap_alloc_new w _) (fun q => q)); omega
    have L44 : w4.heap.size ≠ w1.heap.size := by have := h4.lt; omega
    have k15 := (k14.alloc _).keep k5 (by rintro i rfl; exact Nat.le_refl _)
    have B5 := k15.blk (k1.blk (heap_alloc_new w _) (fun q => q)) (fun q => q)
    have C5 := blk_cell B5
    have L5 := blk_lt B5
    have D5 := k5.blk (heap_alloc_new w4 _) (fun q => L44 q)
    have E5 := blk_cell D5
    have M5 := blk_lt D5
    by_cases hA : free m < 16 ∧ 1 ≤ o.ino
    · obtain ⟨a1, a2⟩ := hA
      have ho5 : opens m o = m.set (free m) o := by unfold opens; rw [if_pos ⟨a1, a2⟩]
      rw [ho5] at h5
      simp -dsimp [go_sem, a1, a2]
      refine (fd_get _ _ _ _ h5).mono ?_; rintro e w6 ⟨rfl, k6⟩; refine ret_intro ?_
      have h6 := h5.step k6 (fun q => q)
      rw [get_new hlen a1 a2]
      have B6 := k6.blk B5 (fun q => q)
      have C6 := blk_cell B6
      have L6 := blk_lt B6
      simp -dsimp [go_sem, gotten, val, C6, L6]
      refine (fd_close _ _ _ _ (h6.alloc _)).mono ?_; rintro e w7 ⟨rfl, h7, k7⟩; refine ret_intro ?_
      rw [get_new hlen a1 a2]
      have hc7 : closes (m.set (free m) o) (free m : Int) = (m.set (free m) o).set (free m) zero := by
        unfold closes; rw [get_new hlen a1 a2]; rfl
      rw [hc7] at h7
      simp -dsimp [go_sem, gotten, val]
      have D7 := (k7.blk (blk_alloc (k6.blk D5 (fun q => q)) _) (fun q => L44 q))
      have B7 := (k7.blk (blk_alloc (k6.blk B5 (fun q => q)) _) (fun q => L11 q))
      have k17 := ((k15.then k6).alloc _).keep k7 (by rintro i rfl; exact Nat.le_refl _)
      have hgt := (get_back hlen a1 o fds).trans hgm
      generalize hwt : w7.alloc _ = wt
      have ht : At wt _ _ := hwt ▸ h7.alloc _
      have Bt := hwt ▸ blk_alloc B7 _
      have Dt := hwt ▸ blk_alloc D7 _
      have kt : Keep w1 wt := hwt ▸ k17.alloc _
      refine (fd_get _ _ fds _ ht).mono ?_; rintro e x1 ⟨rfl, q1⟩; refine ret_intro ?_
      rw [hgt]
      have kt1 := Keep.trans kt q1
      have B1 := q1.blk Bt (fun q => q)
      have C1 := blk_cell B1
      have L1 := blk_lt B1
      have D1 := q1.blk Dt (fun q => q)
      clear C4 L4 C5 L5 E5 M5
      simp -dsimp [go_sem, gotten, val, C1, L1]
      refine (fd_open_nil o _).mono ?_; rintro e x2 ⟨rfl, q2⟩; refine ret_intro ?_
      simp -dsimp [go_sem]
      refine (fd_get_nil 0 _).mono ?_; rintro e x3 ⟨rfl, q3⟩; refine ret_intro ?_
      simp -dsimp [go_sem, gotten, val]
      refine (fd_close_nil 0 _).mono ?_; rintro e x4 ⟨rfl, q4⟩; refine ret_intro ?_
      simp -dsimp [go_sem, gotten, val]
      refine (fd_next_nil _).mono ?_; rintro e x5 ⟨rfl, rfl⟩; refine ret_intro ?_
      have q14 := ((((keep_alloc x1 _).trans q2).trans q3).then (keep_alloc _ _)).then q4
      have N4 := (((q2.then q3).then (keep_alloc _ _)).then q4).blk (heap_alloc_new x1 _) (fun q => q)
      have N5 := blk_cell N4
      have O5 := blk_cell (q14.blk B1 (fun q => q))
      have W5 := blk_cell (q14.blk D1 (fun q => q))
      have O6 := q14.lt L1
      have W6 := q14.lt (blk_lt D1)
      have N6 := blk_lt N4
      clear C1 L1
      simp -dsimp [go_sem, N5, N6, O5, O6, W5, W6]
      refine (fd_set_nil 0 o _).mono ?_; rintro e x6 ⟨rfl, q6⟩; refine ret_intro ?_
      have kend := Keep.trans k1' (Keep.trans (Keep.trans (Keep.trans kt1 q14) (keep_alloc _ _)) q6)
      simp -dsimp [go_sem]
      refine (fd_len_nil _).mono ?_; rintro e x7 ⟨rfl, rfl⟩; refine ret_intro ?_
      simp -dsimp [go_sem]
      refine (fd_users_nil 1 _).mono ?_; rintro e x7 ⟨rfl, rfl⟩; refine ret_intro ?_
      simp -dsimp [go_sem]
      refine (fd_all_nil _).mono ?_; rintro e x7 ⟨rfl, rfl⟩; refine ret_intro ?_
      simp -dsimp [go_sem, show IntKind.i64.wrap (0 : Int) = 0 from by decide]
      refine (fd_full_nil _).mono ?_; rintro e x7 ⟨rfl, rfl⟩; refine ret_intro ?_
      simp -dsimp [go_sem]
      exact kend
    · have ho5 : opens m o = m := by unfold opens; rw [if_neg hA]
      rw [ho5] at h5
      rw [if_neg hA, decide_eq_false hA]
      simp -dsimp [go_sem]
      have ht := h5
      have Bt := B5
      have Dt := D5
      have kt := k15
      have hgt := hgm
      refine (fd_get _ _ fds _ ht).mono ?_; rintro e x1 ⟨rfl, q1⟩; refine ret_intro ?_
      rw [hgt]
      have kt1 := Keep.trans kt q1
      have B1 := q1.blk Bt (fun q => q)
      have C1 := blk_cell B1
      have L1 := blk_lt B1
      have D1 := q1.blk Dt (fun q => q)
      clear C4 L4 C5 L5 E5 M5
      simp -dsimp [go_sem, gotten, val, C1, L1]
      refine (fd_open_nil o _).mono ?_; rintro e x2 ⟨rfl, q2⟩; refine ret_intro ?_
      simp -dsimp [go_sem]
      refine (fd_get_nil 0 _).mono ?_; rintro e x3 ⟨rfl, q3⟩; refine ret_intro ?_
      simp -dsimp [go_sem, gotten, val]
      refine (fd_close_nil 0 _).mono ?_; rintro e x4 ⟨rfl, q4⟩; refine ret_intro ?_
      simp -dsimp [go_sem, gotten, val]
      refine (fd_next_nil _).mono ?_; rintro e x5 ⟨rfl, rfl⟩; refine ret_intro ?_
      have q14 := ((((keep_alloc x1 _).trans q2).trans q3).then (keep_alloc _ _)).then q4
      have N4 := (((q2.then q3).then (keep_alloc _ _)).then q4).blk (heap_alloc_new x1 _) (fun q => q)
      have N5 := blk_cell N4
      have O5 := blk_cell (q14.blk B1 (fun q => q))
      have W5 := blk_cell (q14.blk D1 (fun q => q))
      have O6 := q14.lt L1
      have W6 := q14.lt (blk_lt D1)
      have N6 := blk_lt N4
      clear C1 L1
      simp -dsimp [go_sem, N5, N6, O5, O6, W5, W6]
      refine (fd_set_nil 0 o _).mono ?_; rintro e x6 ⟨rfl, q6⟩; refine ret_intro ?_
      have kend := Keep.trans k1' (Keep.trans (Keep.trans (Keep.trans kt1 q14) (keep_alloc _ _)) q6)
      simp -dsimp [go_sem]
      refine (fd_len_nil _).mono ?_; rintro e x7 ⟨rfl, rfl⟩; refine ret_intro ?_
      simp -dsimp [go_sem]
      refine (fd_users_nil 1 _).mono ?_; rintro e x7 ⟨rfl, rfl⟩; refine ret_intro ?_
      simp -dsimp [go_sem]
      refine (fd_all_nil _).mono ?_; rintro e x7 ⟨rfl, rfl⟩; refine ret_intro ?_
      simp -dsimp [go_sem, show IntKind.i64.wrap (0 : Int) = 0 from by decide]
      refine (fd_full_nil _).mono ?_; rintro e x7 ⟨rfl, rfl⟩; refine ret_intro ?_
      simp -dsimp [go_sem]
      exact kend
end Go.Proofs.Ythchaodakfnbbaa
