/- Whatever is opened, set and closed: places, and what is open where. -/
import Derived.Test.YthchaodakfnbbaaFdl
import Derived.Test.YthchaodakfnbbaaSl
set_option linter.all false
namespace Go.Proofs.Ythchaodakfnbbaa
open Go.RowKit Rx Go.Proofs.Ythchaodakfnbbaa.Fd

structure Fd.Dd where
  kind : Int
  fd : Int
  o : Opn
instance : Inhabited Fd.Dd := ⟨⟨0, 0, default⟩⟩
def Fd.encD (d : Dd) : List Value := [.int .i64 d.kind, .int .i64 d.fd, .int .i64 d.o.ino, .int .i64 d.o.off, .int .i64 d.o.flags]
def Fd.RD (_ : World) (d : Dd) (cs : List Value) : Prop := cs = encD d
theorem Fd.RD.at {w : World} {b off : Nat} {l : List Dd} {i : Nat} {d : Dd} (h : ∀ i x, l[i]? = some x → ∃ cs, cs.length = 5 ∧ RD w x cs ∧ ∀ j u, cs[j]? = some u → w.cell? ⟨b, off + i * 5 + j, none⟩ = some u) (ho : l[i]? = some d) :
    w.cell? ⟨b, off + i * 5, none⟩ = some (.int .i64 d.kind) ∧ w.cell? ⟨b, off + i * 5 + 1, none⟩ = some (.int .i64 d.fd) ∧ w.cell? ⟨b, off + i * 5 + 2, none⟩ = some (.int .i64 d.o.ino) ∧ w.cell? ⟨b, off + i * 5 + 3, none⟩ = some (.int .i64 d.o.off) ∧ w.cell? ⟨b, off + i * 5 + 4, none⟩ = some (.int .i64 d.o.flags) := by
  obtain ⟨cs, -, rfl, h3⟩ := h i d ho
  exact ⟨h3 0 _ rfl, h3 1 _ rfl, h3 2 _ rfl, h3 3 _ rfl, h3 4 _ rfl⟩

/-- The local array. -/
structure Fd.Arr (w : World) (b : Nat) (l : List Opn) : Prop where
  blk : w.heap[b]? = some (.cells (l.flatMap enc).toArray 34 (0, 0))
  len : l.length = 16
theorem Fd.Arr.lt {w : World} {b : Nat} {l : List Opn} (h : Arr w b l) : b < w.heap.size := blk_lt h.blk
theorem Fd.Arr.cells {w : World} {b : Nat} {l : List Opn} (h : Arr w b l) {i : Nat} {o : Opn} (ho : l[i]? = some o) :
    w.cell? ⟨b, i * 3, none⟩ = some (.int .i64 o.ino) ∧ w.cell? ⟨b, i * 3 + 1, none⟩ = some (.int .i64 o.off) ∧ w.cell? ⟨b, i * 3 + 2, none⟩ = some (.int .i64 o.flags) := by
  have h0 := rows_at enc 3 enc_len (by omega) l i 0 (by omega)
  have h1 := rows_at enc 3 enc_len (by omega) l i 1 (by omega)
  have h2 := rows_at enc 3 enc_len (by omega) l i 2 (by omega)
  rw [ho] at h0 h1 h2
  rw [blk_cell h.blk, blk_cell h.blk, blk_cell h.blk, List.getElem?_toArray, List.getElem?_toArray, List.getElem?_toArray]
  exact ⟨h0, h1, h2⟩
theorem Fd.Arr.step {w w' : World} {O : Nat → Prop} {b : Nat} {l : List Opn} (h : Arr w b l) (hs : Step O w w') (hn : ¬ O b) : Arr w' b l := ⟨hs.blk h.blk hn, h.len⟩
theorem Fd.Arr.load {w : World} {b : Nat} {l : List Opn} (h : Arr w b l) : (Instr.loadAt 34 (.pointer (Option.some ⟨b, 0, none⟩))).run Try.prog w = .ok (.agg (l.flatMap enc).toArray) w := by
  refine run_loadAt_mid w b 0 _ _ (.array 16 23) (fun j v hv => ?_) (by kernel_rfl) rfl ?_
  · rw [blk_cell h.blk]; simp [hv]
  · rw [rows_length enc 3 enc_len, h.len]; kernel_rfl

theorem Fd.arr_set (l : List Opn) (i : Nat) (o : Opn) (hi : i < l.length) :
    (((l.flatMap enc).toArray.setIfInBounds (i * 3) (.int .i64 o.ino)).setIfInBounds (i * 3 + 1) (.int .i64 o.off)).setIfInBounds (i * 3 + 2) (.int .i64 o.flags) = ((l.set i o).flatMap enc).toArray := by
  have hl : (l.flatMap enc).length = l.length * 3 := rows_length enc 3 enc_len l
  apply Array.ext_getElem?
  intro k
  have sz : (l.flatMap enc).toArray.size = l.length * 3 := by simp [hl]
  simp only [Array.getElem?_setIfInBounds, Array.size_setIfInBounds, sz]
  obtain ⟨q, r, hr, rfl⟩ : ∃ q r, r < 3 ∧ k = q * 3 + r := ⟨k / 3, k % 3, Nat.mod_lt _ (by omega), by omega⟩
  rw [List.getElem?_toArray, List.getElem?_toArray, rows_at enc 3 enc_len (by omega) _ _ _ hr, rows_at enc 3 enc_len (by omega) _ _ _ hr, List.getElem?_set]
  by_cases hq : i = q
  · subst hq
    rw [if_pos rfl, if_pos hi]
    rcases (by omega : r = 0 ∨ r = 1 ∨ r = 2) with rfl | rfl | rfl
    · rw [if_neg (by omega), if_neg (by omega), if_pos (by omega), if_pos (by omega)]; rfl
    · rw [if_neg (by omega), if_pos (by omega), if_pos (by omega)]; rfl
    · rw [if_pos (by omega), if_pos (by omega)]; rfl
  · rw [if_neg hq, if_neg (by omega), if_neg (by omega), if_neg (by omega)]
theorem Fd.Arr.put {w : World} {b : Nat} {l : List Opn} (h : Arr w b l) {i : Nat} (hi : i < 16) (o : Opn) :
    Arr (((w.setCell ⟨b, i * 3, .none⟩ (.int .i64 o.ino)).setCell ⟨b, i * 3 + 1, .none⟩ (.int .i64 o.off)).setCell ⟨b, i * 3 + 2, .none⟩ (.int .i64 o.flags)) b (l.set i o) := by
  refine ⟨?_, by simp [h.len]⟩
  rw [← arr_set l i o (by rw [h.len]; exact hi)]
  exact blk_set (blk_set (blk_set h.blk _ _) _ _) _ _
theorem Fd.At.far3' {w : World} {b n i : Nat} {l : List Opn} (h : At w b l) (ha : b ≠ n) (u v x : Value) : At (((w.setCell ⟨n, i * 3, .none⟩ u).setCell ⟨n, i * 3 + 1, .none⟩ v).setCell ⟨n, i * 3 + 2, .none⟩ x) b l :=
  ((h.far (a := ⟨n, _, .none⟩) ha u).far (a := ⟨n, _, .none⟩) ha v).far (a := ⟨n, _, .none⟩) ha x
theorem Fd.get_is {m : List Opn} {fd : Int} (h : (Fd.get m fd).isSome = true) : ∃ (j : Nat) (o : Opn), fd = j ∧ m[j]? = .some o ∧ ¬ o.ino = 0 ∧ Fd.get m fd = .some o := by
  obtain ⟨g0, g1⟩ := get_some h
  obtain ⟨j, rfl⟩ := Int.eq_ofNat_of_zero_le g0
  have ho : m[j]? = .some m[j] := List.getElem?_eq_getElem (by simpa using g1)
  rw [get_in ho] at h ⊢
  by_cases hz : m[j].ino = 0
  · rw [if_pos hz] at h; cases h
  · exact ⟨j, _, rfl, ho, hz, by rw [if_neg hz]⟩

theorem Fd.opened_at {m : List Opn} {i : Nat} {o : Opn} (ho : m[i]? = .some o) (hz : ¬ o.ino = 0) : (opened m)[(opened (m.take i)).length]? = .some o := by
  have hi := List.getElem?_eq_some_iff.1 ho
  have e : m = m.take i ++ o :: m.drop (i + 1) := by
    rw [← hi.2, ← List.drop_eq_getElem_cons hi.1, List.take_append_drop]
  conv => lhs; rw [e]
  unfold opened
  rw [List.filter_append, List.filter_cons_of_pos (by simpa using hz)]
  rw [show List.filter (fun o => !decide (o.ino = 0)) (List.take i m) = opened (m.take i) from rfl]
  rw [← e]
  simp [opened]
set_option maxRecDepth 100000 in
set_option maxHeartbeats 4000000 in
theorem fd_does_law (a : Option Addr) (l : List Dd) (cap : Nat) (ino : Int) (w : World) (hl : SlAt RD 5 w a l) (hm : l.length ≤ maxLen) : Calls Try.prog 4 #[.slice a l.length cap, .int .i64 ino] w fun e w' => e = .returned (.bool true) ∧ Keep w w' := by
  unfold maxLen at hm
  refine calls_rx h4 Try.func4 rfl Try.mixed (by kernel_rfl) Try.results4 ?_
  simp -dsimp [go_sem]
  refine (fd_awake _).mono ?_; rintro e w1 ⟨rfl, k1⟩; refine ret_intro ?_
  by_cases n0 : 60 < (l.length : Int)
  · simp -dsimp [go_sem, n0]
    exact k1
  simp -dsimp [go_sem, n0]
  refine (fd_new _).mono ?_; rintro e w2 ⟨rfl, h2, k2⟩; refine ret_intro ?_
  simp -dsimp [go_sem]
  refine loop_intro (σ := Nat) (fun i => [.int .i64 i]) (fun i w' => i ≤ l.length ∧ (∃ m, At w' w1.heap.size m ∧ Arr w' w2.heap.size m) ∧ Keep w1 w') (fun i => l.length - i) 0 (by simp -dsimp [go_sem]; rfl) (by simp -dsimp [go_sem]) ⟨by simp, ⟨_, h2.alloc _, heap_alloc_new w2 _, rfl⟩, k2.alloc _⟩ ?_
  have hne : w1.heap.size ≠ w2.heap.size := by have := h2.lt; omega
  have hbx : w1.heap.size ≤ w2.heap.size := by have := h2.lt; omega
  generalize w2.heap.size = bx at hne hbx ⊢
  rintro i w3 ⟨hi, ⟨m, h3, x3⟩, k3⟩
  have hl3 := hl.keep (Keep.trans k1 k3) (fun _ _ q => q)
  simp -dsimp [go_sem]
  refine condF_intro (fun g1 => ?_) (fun g1 => ?_)
  · simp at g1
    obtain ⟨b, off, rfl, hb, hc⟩ := hl3 (by omega)
    have hd : l[i]? = some l[i] := List.getElem?_eq_getElem _
    generalize l[i] = d at hd
    obtain ⟨c0, c1, c2, c3, c4⟩ := Fd.RD.at hc hd
    have i2 : (i : Int) < l.length := by omega
    have L1 := h3.lt
    have L2 := x3.lt
    simp -dsimp [go_sem, i2, c0, c1, c2, c3, c4, hb, L1, L2]
    have h4 := h3.alloc (Obj.cells (encD d).toArray 36)
    have x4 := x3.step (keep_alloc w3 (Obj.cells (encD d).toArray 36)) (fun q => q)
    have k4 := k3.alloc (Obj.cells (encD d).toArray 36)
    have d4 := heap_alloc_new w3 (Obj.cells (encD d).toArray 36)
    have hn3 : w3.heap.size ≠ bx := by omega
    have hn4 : w3.heap.size ≠ w1.heap.size := by omega
    generalize hd4 : w3.heap.size = bd at d4 hn3 hn4 ⊢
    simp only [encD] at h4 x4 k4 d4
    generalize w3.alloc _ = w4 at h4 x4 k4 d4 ⊢
    have e4 := blk_cell d4
    have M1 := h4.lt
    have M2 := x4.lt
    have M3 := blk_lt d4
    have hlen := x4.len
    refine join_intro (σ := Unit) (fun _ => [.int .i64 (free m)]) (fun _ w' => w' = w4) (by simp -dsimp [go_sem]; rfl) ?_ ?_
    · simp -dsimp [go_sem]
      refine loop_intro (σ := Nat) (fun f => [.int .i64 f]) (fun f w' => f ≤ 16 ∧ w' = w4 ∧ ∀ k < f, ∃ o, m[k]? = some o ∧ ¬ o.ino = 0) (fun f => 16 - f) 0 (by simp -dsimp [go_sem]; rfl) (by simp -dsimp [go_sem]) ⟨by simp, rfl, by simp⟩ ?_
      rintro f w' ⟨hf, rfl, hk⟩
      simp -dsimp [go_sem]
      refine join_intro (σ := Unit) (fun _ => [.int .i64 f]) (fun _ w'' => w'' = w' ∧ f < 16 ∧ ∃ o, m[f]? = some o ∧ ¬ o.ino = 0) (by simp -dsimp [go_sem]; rfl) ?_ ?_
      · simp -dsimp [go_sem]
        by_cases f1 : f < 16
        · have f2 : (f : Int) < 16 := by omega
          have f0 : ¬ (f : Int) < 0 := by omega
          obtain ⟨o, ho⟩ := h4.some f1
          obtain ⟨p0, p1, p2⟩ := x4.cells ho
          by_cases f3 : o.ino = 0
          · have hfr := free_at hk ho f3
            simp -dsimp [go_sem, f2, f0, p0, M2, f3]
            exact meet_intro () (by simp -dsimp [go_sem, hfr]) (by simp -dsimp [go_sem]) rfl
          · simp -dsimp [go_sem, f2, f0, p0, M2, f3]
            exact meet_intro () (by simp -dsimp [go_sem]) (by simp -dsimp [go_sem]) ⟨rfl, f1, o, ho, f3⟩
        · have f2 : ¬ (f : Int) < 16 := by omega
          have hfr := free_all (l := m) (by rw [hlen]; exact fun k hk' => hk k (by omega))
          rw [hlen] at hfr
          have f3 : f = 16 := by omega
          simp -dsimp [go_sem, f2]
          exact meet_intro () (by simp -dsimp [go_sem, hfr, f3]) (by simp -dsimp [go_sem]) rfl
      · rintro _ w'' ⟨rfl, f1, o, ho, f3⟩
        simp -dsimp [go_sem]; simp -dsimp (disch := omega) only [IntWalk.i64_in, IntWalk.u64_in, IntWalk.u8_in]
        refine back_intro (f + 1) (by simp -dsimp [go_sem]) (by simp -dsimp [go_sem]) ⟨by omega, rfl, fun k hk' => ?_⟩ (by omega)
        by_cases hkf : k = f
        · subst hkf; exact ⟨o, ho, f3⟩
        · exact hk k (by omega)
    · rintro _ w' rfl
      simp -dsimp [go_sem]
      refine (fd_next _ _ _ h4).mono ?_; rintro e w5 ⟨rfl, rfl⟩; refine ret_intro ?_
      simp -dsimp [go_sem]
      refine join_intro (σ := Unit) (fun _ => []) (fun _ w'' => w'' = w') (by simp -dsimp [go_sem]; rfl) ?_ ?_
      · simp -dsimp [go_sem]
        have hfm : free m ≤ 16 := by have : free m ≤ m.length := List.findIdx_le_length; omega
        by_cases f1 : free m < 16
        · have f2 : (free m : Int) < 16 := by omega
          have f3 : ¬ 16 ≤ free m := by omega
          simp -dsimp [go_sem, f1, f2, f3]
          exact meet_intro () (by simp -dsimp [go_sem]) (by simp -dsimp [go_sem]) rfl
        · have f2 : ¬ (free m : Int) < 16 := by omega
          have f3 : 16 ≤ free m := by omega
          simp -dsimp [go_sem, f1, f2, f3]
          exact meet_intro () (by simp -dsimp [go_sem]) (by simp -dsimp [go_sem]) rfl
      rintro _ w'' rfl
      simp -dsimp [go_sem]
      refine join_intro (σ := Unit) (fun _ => [.bool (Fd.get m d.fd).isSome]) (fun _ w' => w' = w'') (by simp -dsimp [go_sem]; rfl) ?_ ?_
      · by_cases q0 : 0 ≤ d.fd ∧ d.fd < 16
        · obtain ⟨j, hj⟩ := Int.eq_ofNat_of_zero_le q0.1
          have q1 : (0 : Int) ≤ j := by omega
          have q2 : (j : Int) < 16 := by omega
          have q3 : j < 16 := by omega
          obtain ⟨o, ho⟩ := h4.some q3
          obtain ⟨p0, p1, p2⟩ := x4.cells ho
          rw [hj] at e4 ⊢
          rw [get_in ho]
          have q4 : ¬ (j : Int) < 0 := by omega
          have q5 : (j : Int).tmod 16 = j := Int.tmod_eq_of_lt q1 q2
          by_cases q6 : o.ino = 0
          · simp -dsimp [go_sem, e4, M3, M2, q1, q2, q4, q5, p0, q6]
            exact meet_intro () (by simp -dsimp [go_sem]) (by simp -dsimp [go_sem]) rfl
          · simp -dsimp [go_sem, e4, M3, M2, q1, q2, q4, q5, p0, q6]
            exact meet_intro () (by simp -dsimp [go_sem]) (by simp -dsimp [go_sem]) rfl
        · have hg : Fd.get m d.fd = none := get_out hlen (by omega)
          rw [hg]
          by_cases q1 : 0 ≤ d.fd
          · have q2 : ¬ d.fd < 16 := by omega
            simp -dsimp [go_sem, e4, M3, q1, q2]
            exact meet_intro () (by simp -dsimp [go_sem]) (by simp -dsimp [go_sem]) rfl
          · simp -dsimp [go_sem, e4, M3, q1]
            exact meet_intro () (by simp -dsimp [go_sem]) (by simp -dsimp [go_sem]) rfl
      rintro _ w' rfl
      simp -dsimp [go_sem]
      refine join_intro (σ := Unit) (fun _ => []) (fun _ wz => ∃ m', At wz w1.heap.size m' ∧ Arr wz bx m' ∧ Keep w1 wz) (by simp -dsimp [go_sem]; rfl) ?_ ?_
      · simp -dsimp [go_sem, e4, M3]
        refine condF_intro (fun v1 => ?_) (fun v1 => ?_)
        · simp -dsimp [go_sem, e4, M3]
          refine (fd_close _ _ d.fd _ h4).mono ?_; rintro e w5 ⟨rfl, h5, k5⟩; refine ret_intro ?_
          have x5 := x4.step k5 (fun q => hne q.symm)
          have d5 := k5.blk d4 (fun q => hn4 q)
          have e5 := blk_cell d5
          have k15 := k4.keep k5 (by rintro i rfl; exact Nat.le_refl _)
          have N1 := x5.lt
          have N2 := blk_lt d5
          have N3 := h5.lt
          by_cases hin : (Fd.get m d.fd).isSome = true
          · obtain ⟨j, o, hj, ho, hz, hg⟩ := Fd.get_is hin
            obtain ⟨p0, p1, p2⟩ := x5.cells ho
            have hj3 : j < 16 := by have := (List.getElem?_eq_some_iff.1 ho).1; omega
            have q1 : (0 : Int) ≤ j := by omega
            have q2 : (j : Int) < 16 := by omega
            unfold closes at h5
            rw [if_pos hin, hj, Int.toNat_natCast] at h5
            rw [hg]
            rw [hj] at e5 ⊢
            have hfx := blk_free x5.blk
            simp -dsimp [go_sem, gotten, val, e5, N1, N2, q1, q2, p0, p1, p2, hfx]
            refine ⟨agree_drew (fun _ _ h _ => h), meet_intro () (by simp -dsimp [go_sem]) (by simp -dsimp [go_sem]) ⟨m.set j zero, ?_, ?_, ?_⟩⟩
            · exact ((h5.far3' hne _ _ _).alloc _).drew
            · exact ((x5.put hj3 zero).step (keep_alloc _ _) (fun q => q)).step (keep_drew _) (fun q => q)
            · exact ((((Step.set k15 (.inr hbx) _).set (.inr hbx) _).set (.inr hbx) _).alloc _).drew
          · have hg : Fd.get m d.fd = none := by simpa using hin
            unfold closes at h5
            rw [if_neg hin] at h5
            rw [hg]
            simp -dsimp [go_sem, gotten, val, zero, e5, N1, N2]
            refine ⟨agree_drew (fun _ _ h _ => h), meet_intro () (by simp -dsimp [go_sem]) (by simp -dsimp [go_sem]) ⟨m, ?_, ?_, ?_⟩⟩
            · exact (h5.alloc _).drew
            · exact (x5.step (keep_alloc _ _) (fun q => q)).step (keep_drew _) (fun q => q)
            · exact (Step.alloc k15 _).drew
        · simp -dsimp [go_sem, e4, M3]
          refine condF_intro (fun v2 => ?_) (fun v2 => ?_)
          · by_cases hin : (Fd.get m d.fd).isSome = true
            · obtain ⟨j, o, hj, ho, hz, hg⟩ := Fd.get_is hin
              have hj3 : j < 16 := by have := (List.getElem?_eq_some_iff.1 ho).1; omega
              have q1 : (0 : Int) ≤ j := by omega
              have q2 : (j : Int) < 16 := by omega
              by_cases a2 : 1 ≤ d.o.ino
              · simp -dsimp [go_sem, e4, M3, hin, a2]
                refine (fd_set _ _ d.fd d.o _ h4).mono ?_; rintro e w5 ⟨rfl, h5, k5⟩; refine ret_intro ?_
                have x5 := x4.step k5 (fun q => hne q.symm)
                have d5 := k5.blk d4 (fun q => hn4 q)
                have e5 := blk_cell d5
                have k15 := k4.keep k5 (by rintro i rfl; exact Nat.le_refl _)
                have N1 := x5.lt
                have N2 := blk_lt d5
                have N3 := h5.lt
                have hfx := blk_free x5.blk
                unfold sets at h5
                rw [if_pos ⟨hin, a2⟩, hj, Int.toNat_natCast] at h5
                rw [hj] at e5
                obtain ⟨p0, p1, p2⟩ := x5.cells ho
                simp -dsimp [go_sem, e5, N1, N2, q1, q2, p0, p1, p2, hfx, hin, a2]
                refine meet_intro () (by simp -dsimp [go_sem]) (by simp -dsimp [go_sem]) ⟨m.set j d.o, ?_, ?_, ?_⟩
                · exact h5.far3' hne _ _ _
                · exact x5.put hj3 d.o
                · exact ((Step.set k15 (.inr hbx) _).set (.inr hbx) _).set (.inr hbx) _
              · simp -dsimp [go_sem, e4, M3, hin, a2]
                refine (fd_set _ _ d.fd d.o _ h4).mono ?_; rintro e w5 ⟨rfl, h5, k5⟩; refine ret_intro ?_
                have x5 := x4.step k5 (fun q => hne q.symm)
                have d5 := k5.blk d4 (fun q => hn4 q)
                have e5 := blk_cell d5
                have k15 := k4.keep k5 (by rintro i rfl; exact Nat.le_refl _)
                have N1 := x5.lt
                have N2 := blk_lt d5
                have N3 := h5.lt
                have hfx := blk_free x5.blk
                unfold sets at h5
                rw [if_neg (fun q => a2 q.2)] at h5
                simp -dsimp [go_sem, e5, N1, N2, hin, a2]
                exact meet_intro () (by simp -dsimp [go_sem]) (by simp -dsimp [go_sem]) ⟨m, h5, x5, k15⟩
            · have hg : (Fd.get m d.fd).isSome = false := by simpa using hin
              simp -dsimp [go_sem, e4, M3, hg]
              refine (fd_set _ _ d.fd d.o _ h4).mono ?_; rintro e w5 ⟨rfl, h5, k5⟩; refine ret_intro ?_
              have x5 := x4.step k5 (fun q => hne q.symm)
              have d5 := k5.blk d4 (fun q => hn4 q)
              have e5 := blk_cell d5
              have k15 := k4.keep k5 (by rintro i rfl; exact Nat.le_refl _)
              have N1 := x5.lt
              have N2 := blk_lt d5
              have N3 := h5.lt
              have hfx := blk_free x5.blk
              unfold sets at h5
              rw [if_neg (fun q => hin q.1)] at h5
              simp -dsimp [go_sem, e5, N1, N2, hg]
              exact meet_intro () (by simp -dsimp [go_sem]) (by simp -dsimp [go_sem]) ⟨m, h5, x5, k15⟩
          · simp -dsimp [go_sem, e4, M3]
            refine (fd_open _ _ d.o _ h4).mono ?_; rintro e w5 ⟨rfl, h5, k5⟩; refine ret_intro ?_
            have x5 := x4.step k5 (fun q => hne q.symm)
            have d5 := k5.blk d4 (fun q => hn4 q)
            have e5 := blk_cell d5
            have k15 := k4.keep k5 (by rintro i rfl; exact Nat.le_refl _)
            have N1 := x5.lt
            have N2 := blk_lt d5
            have N3 := h5.lt
            have hfx := blk_free x5.blk
            by_cases f1 : free m < 16
            · have q2 : (free m : Int) < 16 := by omega
              have q1 : ¬ (free m : Int) < 0 := by omega
              obtain ⟨o, ho⟩ := h4.some f1
              obtain ⟨p0, p1, p2⟩ := x5.cells ho
              by_cases a2 : 1 ≤ d.o.ino
              · unfold opens at h5
                rw [if_pos ⟨f1, a2⟩] at h5
                simp -dsimp [go_sem, e5, N1, N2, f1, q1, q2, a2, p0, p1, p2, hfx]
                refine meet_intro () (by simp -dsimp [go_sem]) (by simp -dsimp [go_sem]) ⟨m.set (free m) d.o, ?_, ?_, ?_⟩
                · exact h5.far3' hne _ _ _
                · exact x5.put f1 d.o
                · exact ((Step.set k15 (.inr hbx) _).set (.inr hbx) _).set (.inr hbx) _
              · unfold opens at h5
                rw [if_neg (fun q => a2 q.2)] at h5
                simp -dsimp [go_sem, e5, N1, N2, f1, q1, q2, a2]
                exact meet_intro () (by simp -dsimp [go_sem]) (by simp -dsimp [go_sem]) ⟨m, h5, x5, k15⟩
            · have q2 : ¬ (free m : Int) < 16 := by omega
              unfold opens at h5
              rw [if_neg (fun q => f1 q.1)] at h5
              simp -dsimp [go_sem, e5, N1, N2, f1, q2]
              exact meet_intro () (by simp -dsimp [go_sem]) (by simp -dsimp [go_sem]) ⟨m, h5, x5, k15⟩
      rintro _ w6 ⟨m', h6, x6, k6⟩
      simp -dsimp [go_sem]
      refine (fd_all _ _ _ h6).mono ?_; rintro e w7 ⟨v, rfl, ho7, k7⟩; refine ret_intro ?_
      have h7 := h6.step k7 (fun q => q)
      have x7 := x6.step k7 (fun q => q)
      have k17 := Keep.trans k6 k7
      have hL := fun k tk => loadF_of x7.load k tk
      have N1 := x7.lt
      have hle : (opened m').length ≤ 16 := Nat.le_trans (List.length_filter_le _ _) (by rw [h6.len]; omega)
      obtain ⟨va, vc, rfl, -, hcell⟩ := own_slice ho7
      simp -dsimp [go_sem, hL, N1]
      refine loop_intro (σ := Nat) (fun q => [.int .i64 (opened (m'.take q)).length, .int .i64 ((opened (m'.take q)).filter (fun o => decide (o.ino = ino))).length, .int .i64 q]) (fun q w' => q ≤ 16 ∧ Keep w7 w') (fun q => 16 - q) 0 (by simp -dsimp [go_sem]; rfl) (by simp -dsimp [go_sem, opened]) ⟨by omega, Keep.refl _⟩ ?_
      rintro q w8 ⟨hq, k8⟩
      simp -dsimp [go_sem]
      refine condF_intro (fun v1 => ?_) (fun v1 => ?_)
      · simp at v1
        obtain ⟨o, ho⟩ := h6.some (i := q) (by omega)
        have hx := Fd.index ho (by omega)
        have hot := opened_take ho
        have q2 : (q : Int) < 16 := by omega
        by_cases hz : o.ino = 0
        · simp -dsimp [go_sem, hx, enc, q2, hz]
          simp -dsimp (disch := omega) only [IntWalk.i64_in, IntWalk.u64_in, IntWalk.u8_in]
          rw [if_pos hz, List.append_nil] at hot
          exact back_intro (q + 1) (by simp -dsimp [go_sem, hot]) (by simp -dsimp [go_sem]) ⟨by omega, k8.alloc _⟩ (by omega)
        · have hat := opened_at ho hz
          have hnl : (opened (m'.take q)).length < (opened m').length := (List.getElem?_eq_some_iff.1 hat).1
          have hnl' : ¬ (opened m').length ≤ (opened (m'.take q)).length := by omega
          have hnl2 : ((opened (m'.take q)).length : Int) < (opened m').length := by omega
          obtain ⟨g, rfl, hg, hg', hgc⟩ := hcell (by omega)
          generalize hnn : (opened (m'.take q)).length = nn at hat hnl hnl' hnl2 ⊢
          have y0 := k8.cell (hgc (nn * 3 + 0) (.int .i64 o.ino) (by rw [rows_at enc 3 enc_len (by omega) _ _ _ (by omega), hat]; rfl)) (fun q => q)
          have y1 := k8.cell (hgc (nn * 3 + 1) (.int .i64 o.off) (by rw [rows_at enc 3 enc_len (by omega) _ _ _ (by omega), hat]; rfl)) (fun q => q)
          have y2 := k8.cell (hgc (nn * 3 + 2) (.int .i64 o.flags) (by rw [rows_at enc 3 enc_len (by omega) _ _ _ (by omega), hat]; rfl)) (fun q => q)
          rw [Nat.add_zero] at y0
          have hg2 := k8.lt hg'
          have hn16 : nn ≤ 16 := by omega
          have hk9 : Keep w7 (w8.alloc (Obj.cells (enc o).toArray 23)).drew := (k8.alloc _).drew
          rw [if_neg hz] at hot
          have hl1 : (opened (m'.take (q + 1))).length = nn + 1 := by rw [hot, List.length_append, hnn]; rfl
          have hl2 : ((opened (m'.take (q + 1))).filter (fun o => decide (o.ino = ino))).length = ((opened (m'.take q)).filter (fun o => decide (o.ino = ino))).length + (if o.ino = ino then 1 else 0) := by
            rw [hot, List.filter_append, List.length_append]
            by_cases hi : o.ino = ino <;> simp [hi]
          have hle2 : ((opened (m'.take q)).filter (fun o => decide (o.ino = ino))).length ≤ 16 := Nat.le_trans (List.length_filter_le _ _) (by omega)
          generalize ((opened (m'.take q)).filter (fun o => decide (o.ino = ino))).length = uu at hl2 hle2 ⊢
          by_cases hi : o.ino = ino
          · rw [if_pos hi] at hl2
            simp -dsimp [go_sem, hx, enc, q2, hz, hnl', hnl2, y0, y1, y2, hg2]
            refine ⟨agree_drew (fun _ _ h _ => h), ?_⟩
            simp -dsimp [go_sem, hi]
            simp -dsimp (disch := omega) only [IntWalk.i64_in, IntWalk.u64_in, IntWalk.u8_in]
            exact back_intro (q + 1) (by simp -dsimp [go_sem, hl1, hl2]) (by simp -dsimp [go_sem]) ⟨by omega, (k8.alloc _).drew⟩ (by omega)
          · rw [if_neg hi] at hl2
            simp -dsimp [go_sem, hx, enc, q2, hz, hnl', hnl2, y0, y1, y2, hg2]
            refine ⟨agree_drew (fun _ _ h _ => h), ?_⟩
            simp -dsimp [go_sem, hi]
            simp -dsimp (disch := omega) only [IntWalk.i64_in, IntWalk.u64_in, IntWalk.u8_in]
            exact back_intro (q + 1) (by simp -dsimp [go_sem, hl1, hl2]) (by simp -dsimp [go_sem]) ⟨by omega, (k8.alloc _).drew⟩ (by omega)
      · simp at v1
        have : q = 16 := by omega
        subst this
        rw [List.take_of_length_le (by rw [h6.len]; omega)]
        simp -dsimp [go_sem]
        have h8 := h7.step k8 (fun q => q)
        refine (fd_len _ _ _ h8).mono ?_; rintro e w9 ⟨rfl, k9⟩; refine ret_intro ?_
        have h9 := h8.step k9 (fun q => q)
        simp -dsimp [go_sem]
        refine (fd_full _ _ _ h9).mono ?_; rintro e w10 ⟨rfl, k10⟩; refine ret_intro ?_
        have h10 := h9.step k10 (fun q => q)
        have kz := Keep.trans k7 (Keep.trans k8 (Keep.trans k9 k10))
        have xz := x6.step kz (fun q => q)
        have kw := Step.then k6 kz
        by_cases hi : ino = 0
        · by_cases h17 : (opened m').length = 16
          · have h18 : ((opened m').length : Int) = 16 := by omega
            simp -dsimp [go_sem, hi, h17, h18]
            simp -dsimp (disch := omega) only [IntWalk.i64_in, IntWalk.u64_in, IntWalk.u8_in]
            exact back_intro (i + 1) (by simp -dsimp [go_sem]) (by simp -dsimp [go_sem]) ⟨by omega, ⟨m', h10, xz⟩, kw⟩ (by omega)
          · have h18 : ¬ ((opened m').length : Int) = 16 := by omega
            simp -dsimp [go_sem, hi, h17, h18]
            simp -dsimp (disch := omega) only [IntWalk.i64_in, IntWalk.u64_in, IntWalk.u8_in]
            exact back_intro (i + 1) (by simp -dsimp [go_sem]) (by simp -dsimp [go_sem]) ⟨by omega, ⟨m', h10, xz⟩, kw⟩ (by omega)
        · by_cases h17 : (opened m').length = 16
          · have h18 : ((opened m').length : Int) = 16 := by omega
            simp -dsimp [go_sem, hi, h17, h18]
            refine (fd_users _ _ ino _ h10).mono ?_; rintro e w11 ⟨rfl, k11⟩; refine ret_intro ?_
            simp -dsimp [go_sem]
            simp -dsimp (disch := omega) only [IntWalk.i64_in, IntWalk.u64_in, IntWalk.u8_in]
            exact back_intro (i + 1) (by simp -dsimp [go_sem]) (by simp -dsimp [go_sem]) ⟨by omega, ⟨m', h10.step k11 (fun q => q), xz.step k11 (fun q => q)⟩, Step.then kw k11⟩ (by omega)
          · have h18 : ¬ ((opened m').length : Int) = 16 := by omega
            simp -dsimp [go_sem, hi, h17, h18]
            refine (fd_users _ _ ino _ h10).mono ?_; rintro e w11 ⟨rfl, k11⟩; refine ret_intro ?_
            simp -dsimp [go_sem]
            simp -dsimp (disch := omega) only [IntWalk.i64_in, IntWalk.u64_in, IntWalk.u8_in]
            exact back_intro (i + 1) (by simp -dsimp [go_sem]) (by simp -dsimp [go_sem]) ⟨by omega, ⟨m', h10.step k11 (fun q => q), xz.step k11 (fun q => q)⟩, Step.then kw k11⟩ (by omega)
  · simp at g1
    have : i = l.length := by omega
    subst this
    simp -dsimp [go_sem]
    exact Keep.trans k1 k3
end Go.Proofs.Ythchaodakfnbbaa
