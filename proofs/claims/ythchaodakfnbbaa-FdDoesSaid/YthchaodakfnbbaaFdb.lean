/- Package fd, the other half: a place that is closed, the row of what is open, and how many. -/
import Derived.Test.YthchaodakfnbbaaFd
set_option linter.all false
namespace Go.Proofs.Ythchaodakfnbbaa
open Go.RowKit Rx Go.Proofs.Ythchaodakfnbbaa.Fd

theorem Fd.At.far {w : World} {b : Nat} {l : List Opn} (h : At w b l) {a : Addr} (ha : b ≠ a.block) (v : Value) : At (w.setCell a v) b l := ⟨blk_far h.blk ha v, h.len⟩
theorem Fd.At.far3 {w : World} {b n : Nat} {l : List Opn} (h : At w b l) (ha : b ≠ n) (u v x : Value) : At (((w.setCell ⟨n, 0, none⟩ u).setCell ⟨n, 1, none⟩ v).setCell ⟨n, 2, none⟩ x) b l :=
  ((h.far (a := ⟨n, 0, none⟩) ha u).far (a := ⟨n, 1, none⟩) ha v).far (a := ⟨n, 2, none⟩) ha x

theorem fd_close (b : Nat) (l : List Opn) (fd : Int) (w : World) (h : At w b l) :
    Calls Try.prog 13 #[.pointer (some ⟨b, 0, none⟩), .int .i64 fd] w fun e w' =>
      e = .returned (gotten (get l fd)) ∧ At w' b (closes l fd) ∧ Step (fun k => k = b) w w' := by
  have hb := h.lt
  unfold closes
  refine calls_rx h13 Try.func13 rfl Try.mixed (by kernel_rfl) Try.results13 ?_
  simp -dsimp [go_sem]
  refine (fd_get b l fd _ (h.step (keep_alloc _ _) (fun q => q))).mono ?_; rintro e w1 ⟨rfl, hk⟩; refine ret_intro ?_
  have hk' := (keep_alloc w _).trans hk
  have hw1 := h.step hk' (fun q => q)
  have hsz := hk.size
  simp only [World.size_alloc] at hsz
  have hlt : w.heap.size < w1.heap.size := by omega
  have g0 := hk.blk (heap_alloc_new w _) (fun q => q)
  have f0 := blk_free g0
  have c0 := hk.cell (a := ⟨w.heap.size, 0, none⟩) (by simp -dsimp [go_sem]; rfl) (fun q => q)
  have c1 := hk.cell (a := ⟨w.heap.size, 1, none⟩) (by simp -dsimp [go_sem]; rfl) (fun q => q)
  have c2 := hk.cell (a := ⟨w.heap.size, 2, none⟩) (by simp -dsimp [go_sem]; rfl) (fun q => q)
  by_cases h1 : (get l fd).isSome = true
  · obtain ⟨g1, g2⟩ := get_some h1
    obtain ⟨i, rfl⟩ := Int.eq_ofNat_of_zero_le g1
    rw [Int.toNat_natCast] at *
    have hl := h.len
    have i0 : (0 : Int) ≤ i := by omega
    have i2 : (i : Int) < 16 := by omega
    obtain ⟨x, hx⟩ := h.some (i := i) (by omega)
    obtain ⟨d0, d1, d2⟩ := hw1.cells hx
    have hf := blk_free hw1.blk
    have hb1 := hw1.lt
    simp -dsimp [go_sem, gotten, val, hlt, h1, c0, c1, c2, f0, i0, i2, d0, d1, d2, hf, hb1]
    refine ⟨(((((hw1.put (i := i) (by omega) zero).far3 (by omega) _ _ _)).alloc _)), ?_⟩
    exact ((((((Keep.any hk').both (put_step w1 b _ zero)).set (.inr (by simp)) _).set (.inr (by simp)) _).set (.inr (by simp)) _).alloc _)
  · have h2 : (get l fd).isSome = false := by simpa using h1
    simp -dsimp [go_sem, gotten, val, hlt, h2, c0, c1, c2, f0]
    refine ⟨((hw1.far3 (by omega) _ _ _).alloc _), ?_⟩
    exact (((((Keep.any hk').set (.inr (by simp)) _).set (.inr (by simp)) _).set (.inr (by simp)) _).alloc _)

theorem Fd.At.load {w : World} {b : Nat} {l : List Opn} (h : At w b l) : (Instr.loadAt 34 (.pointer (Option.some ⟨b, 1, none⟩))).run Try.prog w = .ok (.agg (l.flatMap enc).toArray) w := by
  refine run_loadAt_mid w b 1 _ _ (.array 16 23) (fun j v hv => ?_) (by kernel_rfl) rfl ?_
  · rw [blk_cell h.blk]; simp [tab, Nat.add_comm 1 j, hv]
  · rw [rows_length enc 3 enc_len, h.len]; kernel_rfl

/-- What is open, in the order of its places. -/
def Fd.opened (l : List Opn) : List Opn := l.filter (fun o => !decide (o.ino = 0))
theorem Fd.opened_take {l : List Opn} {i : Nat} {o : Opn} (ho : l[i]? = some o) : opened (l.take (i + 1)) = opened (l.take i) ++ (if o.ino = 0 then [] else [o]) := by
  unfold opened
  rw [List.take_add_one, ho, List.filter_append]
  congr 1
  by_cases h : o.ino = 0 <;> simp [h]
theorem Fd.index {l : List Opn} {i : Nat} {o : Opn} (ho : l[i]? = some o) (hi : i < 16) (w : World) : (Instr.index 34 (.agg (l.flatMap enc).toArray) (.int .i64 i)).run Try.prog w = .ok (.agg (enc o).toArray) w :=
  run_index_rows enc 3 enc_len (by omega) _ 23 16 (by kernel_rfl) (by kernel_rfl) (by kernel_rfl) ho hi w

theorem fd_all (b : Nat) (l : List Opn) (w : World) (h : At w b l) :
    Calls Try.prog 16 #[.pointer (some ⟨b, 0, none⟩)] w fun e w' => ∃ v, e = .returned v ∧ w'.ownsRow w.heap.size 23 3 v (opened l).length ((opened l).flatMap enc) ∧ Keep w w' := by
  have hb := h.lt
  have hl := h.len
  refine calls_rx h16 Try.func16 rfl Try.mixed (by kernel_rfl) Try.results16 ?_
  simp -dsimp [go_sem]
  refine (fd_ok b l _ h).mono ?_; rintro e w' ⟨rfl, rfl⟩; refine ret_intro ?_
  have hL := fun k tk => loadF_of h.load k tk
  simp -dsimp [go_sem, hb, hL]
  refine loop_intro (σ := Nat × Value) (fun s => [s.2, .int .i64 s.1]) (fun s w' => s.1 ≤ 16 ∧ w'.ownsRow w.heap.size 23 3 s.2 (opened (l.take s.1)).length ((opened (l.take s.1)).flatMap enc) ∧ Keep w w') (fun s => 16 - s.1) (0, .slice none 0 0) (by simp -dsimp [go_sem]; rfl) (by simp -dsimp [go_sem]) ⟨by simp, World.ownsRow_nil _ _ _ _, Keep.refl _⟩ ?_
  rintro ⟨i, v⟩ w' ⟨hi, hown, hk⟩
  simp only at hi hown
  simp -dsimp [go_sem]
  refine condF_intro (fun h1 => ?_) (fun h1 => ?_)
  · simp at h1
    obtain ⟨o, ho⟩ := h.some (i := i) (by omega)
    have hx := Fd.index ho (by omega)
    have hle : (opened (l.take i)).length ≤ 16 := Nat.le_trans (List.length_filter_le _ _) (by rw [List.length_take, hl]; omega)
    have hot := opened_take ho
    have hbb := hk.lt hb
    simp -dsimp [go_sem, hx, enc]
    refine condF_intro (fun h2 => ?_) (fun h2 => ?_)
    · simp at h2
      simp -dsimp [go_sem]
      rw [if_neg h2] at hot
      refine app_own w.heap.size 3 24 (by kernel_rfl) (by kernel_rfl) ((hown.alloc _).alloc _) (enc o) (by simp [enc]) ?_ (by simp [enc, Value.oneCell']) (by simp only [maxLen]; omega) (by omega) (by simp; have := hk.size; omega) ?_
      · intro j u hu
        have hn := heap_alloc_new (w'.alloc (Obj.cells #[Value.int IntKind.i64 o.ino, Value.int IntKind.i64 o.off, Value.int IntKind.i64 o.flags] 23)) (Obj.cells (enc o).toArray 23)
        rw [World.size_alloc] at hn
        rw [Addr.add_mid, Nat.zero_add]
        refine (blk_cell hn j).trans ?_
        simpa using hu
      · rintro v' w2 ho2 hg
        simp -dsimp [go_sem]; simp -dsimp (disch := omega) only [IntWalk.i64_in, IntWalk.u64_in, IntWalk.u8_in]
        refine back_intro (i + 1, v') (by simp -dsimp [go_sem]) (by simp -dsimp [go_sem]) ⟨by simp; omega, by simp only [hot]; simpa using ho2, ?_⟩ (by simp; omega)
        refine ((hk.alloc _).alloc _).grown hg (fun q hq => .inr ?_)
        exact (hown.lt q hq).1
    · simp at h2
      simp -dsimp [go_sem]; simp -dsimp (disch := omega) only [IntWalk.i64_in, IntWalk.u64_in, IntWalk.u8_in]
      rw [if_pos h2, List.append_nil] at hot
      refine back_intro (i + 1, v) (by simp -dsimp [go_sem]) (by simp -dsimp [go_sem]) ⟨by simp; omega, by simp only [hot]; exact hown.alloc _, hk.alloc _⟩ (by simp; omega)
  · simp at h1
    simp -dsimp [go_sem]
    have : i = 16 := by omega
    subst this
    rw [List.take_of_length_le (by omega)] at hown
    exact ⟨hown, hk⟩

theorem fd_len (b : Nat) (l : List Opn) (w : World) (h : At w b l) :
    Calls Try.prog 12 #[.pointer (some ⟨b, 0, none⟩)] w fun e w' => e = .returned (.int .i64 (opened l).length) ∧ Keep w w' := by
  refine calls_rx h12 Try.func12 rfl Try.mixed (by kernel_rfl) Try.results12 ?_
  simp -dsimp [go_sem]
  refine (fd_all b l _ h).mono ?_; rintro e w' ⟨v, rfl, ho, hk⟩; refine ret_intro ?_
  obtain ⟨a, c, rfl, -, -⟩ := own_slice ho
  simp -dsimp [go_sem]
  exact hk

theorem fd_full (b : Nat) (l : List Opn) (w : World) (h : At w b l) :
    Calls Try.prog 11 #[.pointer (some ⟨b, 0, none⟩)] w fun e w' => e = .returned (.bool (decide ((opened l).length = 16))) ∧ Keep w w' := by
  refine calls_rx h11 Try.func11 rfl Try.mixed (by kernel_rfl) Try.results11 ?_
  simp -dsimp [go_sem]
  refine (fd_len b l _ h).mono ?_; rintro e w' ⟨rfl, hk⟩; refine ret_intro ?_
  simp -dsimp [go_sem]
  exact ⟨by omega, hk⟩

theorem fd_users (b : Nat) (l : List Opn) (ino : Int) (w : World) (h : At w b l) :
    Calls Try.prog 17 #[.pointer (some ⟨b, 0, none⟩), .int .i64 ino] w fun e w' => e = .returned (.int .i64 ((opened l).filter (fun o => decide (o.ino = ino))).length) ∧ Keep w w' := by
  refine calls_rx h17 Try.func17 rfl Try.mixed (by kernel_rfl) Try.results17 ?_
  simp -dsimp [go_sem]
  refine (fd_all b l _ h).mono ?_; rintro e w1 ⟨v, rfl, ho, hk⟩; refine ret_intro ?_
  obtain ⟨a, c, rfl, -, hcell⟩ := own_slice ho
  have hle : (opened l).length ≤ 16 := Nat.le_trans (List.length_filter_le _ _) (by rw [h.len]; omega)
  generalize opened l = m at *
  simp -dsimp [go_sem]
  refine loop_intro (σ := Nat) (fun i => [.int .i64 ((m.take i).filter (fun o => decide (o.ino = ino))).length, .int .i64 i]) (fun i w' => i ≤ m.length ∧ Keep w1 w') (fun i => m.length - i) 0 (by simp -dsimp [go_sem]; rfl) (by simp -dsimp [go_sem]) ⟨by simp, Keep.refl _⟩ ?_
  rintro i w2 ⟨hi, hk2⟩
  simp -dsimp [go_sem]
  refine condF_intro (fun h1 => ?_) (fun h1 => ?_)
  · simp at h1
    obtain ⟨g, rfl, hg, hg', hc⟩ := hcell (by omega)
    have ho : m[i]? = some m[i] := List.getElem?_eq_getElem _
    generalize m[i] = o at ho
    have c0 := hk2.cell (hc (i * 3 + 0) (.int .i64 o.ino) (by rw [rows_at enc 3 enc_len (by omega) _ _ _ (by omega), ho]; rfl)) (fun q => q)
    have c1 := hk2.cell (hc (i * 3 + 1) (.int .i64 o.off) (by rw [rows_at enc 3 enc_len (by omega) _ _ _ (by omega), ho]; rfl)) (fun q => q)
    have c2 := hk2.cell (hc (i * 3 + 2) (.int .i64 o.flags) (by rw [rows_at enc 3 enc_len (by omega) _ _ _ (by omega), ho]; rfl)) (fun q => q)
    have hg2 := hk2.lt hg'
    rw [Nat.add_zero] at c0
    have i2 : (i : Int) < m.length := by omega
    have hfl : ((m.take (i + 1)).filter (fun o => decide (o.ino = ino))).length = ((m.take i).filter (fun o => decide (o.ino = ino))).length + if o.ino = ino then 1 else 0 := by
      rw [List.take_add_one, ho, List.filter_append, List.length_append]
      congr 1
      by_cases h : o.ino = ino <;> simp [h]
    have hcl : ((m.take i).filter (fun o => decide (o.ino = ino))).length ≤ i := Nat.le_trans (List.length_filter_le _ _) (by rw [List.length_take]; omega)
    simp -dsimp [go_sem, i2, c0, c1, c2, hg2]
    refine condF_intro (fun h2 => ?_) (fun h2 => ?_)
    · simp at h2
      rw [if_pos h2] at hfl
      simp -dsimp [go_sem]; simp -dsimp (disch := omega) only [IntWalk.i64_in, IntWalk.u64_in, IntWalk.u8_in]
      refine back_intro (i + 1) (by simp -dsimp [go_sem]; omega) (by simp -dsimp [go_sem]) ⟨by omega, hk2.alloc _⟩ (by omega)
    · simp at h2
      rw [if_neg h2] at hfl
      simp -dsimp [go_sem]; simp -dsimp (disch := omega) only [IntWalk.i64_in, IntWalk.u64_in, IntWalk.u8_in]
      refine back_intro (i + 1) (by simp -dsimp [go_sem]; omega) (by simp -dsimp [go_sem]) ⟨by omega, hk2.alloc _⟩ (by omega)
  · simp at h1
    have : i = m.length := by omega
    subst this
    simp -dsimp [go_sem]
    exact hk.trans hk2

theorem fd_get_nil (fd : Int) (w : World) :
    Calls Try.prog 18 #[.pointer none, .int .i64 fd] w fun e w' => e = .returned (gotten none) ∧ Keep w w' := by
  refine calls_rx h18 Try.func18 rfl Try.mixed (by kernel_rfl) Try.results18 ?_
  simp -dsimp [go_sem]
  refine (fd_ok_nil _).mono ?_; rintro e w' ⟨rfl, rfl⟩; refine ret_intro ?_
  simp -dsimp [go_sem]
  exact ⟨rfl, keep_alloc _ _⟩
theorem fd_next_nil (w : World) :
    Calls Try.prog 14 #[.pointer none] w fun e w' => e = .returned (.tuple #[.int .i64 0, .bool false]) ∧ w = w' := by
  refine calls_rx h14 Try.func14 rfl Try.mixed (by kernel_rfl) Try.results14 ?_
  simp -dsimp [go_sem]
  refine scope_intro (σ := Nat) (fun i => [.int .i64 i]) (fun i w' => False) (fun i => 16 - i) 17 [] ?_ (fun g w' h => h.elim)
  simp -dsimp [go_sem]
  refine (fd_ok_nil _).mono ?_; rintro e w' ⟨rfl, rfl⟩; refine ret_intro ?_
  simp -dsimp [go_sem]
theorem fd_open_nil (o : Opn) (w : World) :
    Calls Try.prog 10 #[.pointer none, val o] w fun e w' => e = .returned (.tuple #[.int .i64 0, .bool false]) ∧ Keep w w' := by
  unfold val
  refine calls_rx h10 Try.func10 rfl Try.mixed (by kernel_rfl) Try.results10 ?_
  simp -dsimp [go_sem]
  refine (fd_next_nil _).mono ?_; rintro e w' ⟨rfl, rfl⟩; refine ret_intro ?_
  simp -dsimp [go_sem]
  exact keep_alloc _ _
theorem fd_close_nil (fd : Int) (w : World) :
    Calls Try.prog 13 #[.pointer none, .int .i64 fd] w fun e w' => e = .returned (gotten none) ∧ Keep w w' := by
  refine calls_rx h13 Try.func13 rfl Try.mixed (by kernel_rfl) Try.results13 ?_
  simp -dsimp [go_sem]
  refine (fd_get_nil fd _).mono ?_; rintro e w1 ⟨rfl, hk⟩; refine ret_intro ?_
  have hk' := (keep_alloc w _).trans hk
  have hsz := hk.size
  simp only [World.size_alloc] at hsz
  have hlt : w.heap.size < w1.heap.size := by omega
  have g0 := hk.blk (heap_alloc_new w _) (fun q => q)
  have f0 := blk_free g0
  have c0 := hk.cell (a := ⟨w.heap.size, 0, none⟩) (by simp -dsimp [go_sem]; rfl) (fun q => q)
  have c1 := hk.cell (a := ⟨w.heap.size, 1, none⟩) (by simp -dsimp [go_sem]; rfl) (fun q => q)
  have c2 := hk.cell (a := ⟨w.heap.size, 2, none⟩) (by simp -dsimp [go_sem]; rfl) (fun q => q)
  simp -dsimp [go_sem, gotten, val, hlt, c0, c1, c2, f0]
  exact ((((hk'.set (.inr (Nat.le_refl _)) _).set (.inr (Nat.le_refl _)) _).set (.inr (Nat.le_refl _)) _).alloc _)
theorem fd_set_nil (fd : Int) (o : Opn) (w : World) :
    Calls Try.prog 15 #[.pointer none, .int .i64 fd, val o] w fun e w' => e = .returned (.bool false) ∧ Keep w w' := by
  unfold val
  refine calls_rx h15 Try.func15 rfl Try.mixed (by kernel_rfl) Try.results15 ?_
  simp -dsimp [go_sem]
  refine (fd_get_nil fd _).mono ?_; rintro e w1 ⟨rfl, hk⟩; refine ret_intro ?_
  have hk' := (keep_alloc w _).trans hk
  have hsz := hk.size
  simp only [World.size_alloc] at hsz
  have hlt : w.heap.size < w1.heap.size := by omega
  simp -dsimp [go_sem, gotten, val, hlt]
  exact hk'.alloc _
theorem fd_all_nil (w : World) :
    Calls Try.prog 16 #[.pointer none] w fun e w' => e = .returned (.slice none 0 0) ∧ w = w' := by
  refine calls_rx h16 Try.func16 rfl Try.mixed (by kernel_rfl) Try.results16 ?_
  simp -dsimp [go_sem]
  refine (fd_ok_nil _).mono ?_; rintro e w' ⟨rfl, rfl⟩; refine ret_intro ?_
  simp -dsimp [go_sem]
theorem fd_len_nil (w : World) :
    Calls Try.prog 12 #[.pointer none] w fun e w' => e = .returned (.int .i64 0) ∧ w = w' := by
  refine calls_rx h12 Try.func12 rfl Try.mixed (by kernel_rfl) Try.results12 ?_
  simp -dsimp [go_sem]
  refine (fd_all_nil _).mono ?_; rintro e w' ⟨rfl, rfl⟩; refine ret_intro ?_
  simp -dsimp [go_sem]
theorem fd_full_nil (w : World) :
    Calls Try.prog 11 #[.pointer none] w fun e w' => e = .returned (.bool false) ∧ w = w' := by
  refine calls_rx h11 Try.func11 rfl Try.mixed (by kernel_rfl) Try.results11 ?_
  simp -dsimp [go_sem]
  refine (fd_len_nil _).mono ?_; rintro e w' ⟨rfl, rfl⟩; refine ret_intro ?_
  simp -dsimp [go_sem]
theorem fd_users_nil (ino : Int) (w : World) :
    Calls Try.prog 17 #[.pointer none, .int .i64 ino] w fun e w' => e = .returned (.int .i64 0) ∧ w = w' := by
  refine calls_rx h17 Try.func17 rfl Try.mixed (by kernel_rfl) Try.results17 ?_
  simp -dsimp [go_sem]
  refine (fd_all_nil _).mono ?_; rintro e w' ⟨rfl, rfl⟩; refine ret_intro ?_
  simp -dsimp [go_sem]
  refine loop_intro (σ := Unit) (fun i => [.int .i64 0, .int .i64 0]) (fun i w' => w' = w) (fun i => 0) () (by simp -dsimp [go_sem]; rfl) (by simp -dsimp [go_sem]) rfl ?_
  rintro _ w2 rfl
  simp -dsimp [go_sem]
end Go.Proofs.Ythchaodakfnbbaa
