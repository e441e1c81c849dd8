/- Package words: Unpack, a Reader's Text. -/
import Derived.Test.YtdfjfagljngciaaGreatRdr
import Derived.Test.YtdfjfagljngciaaGreatApa
set_option linter.all false
set_option maxRecDepth 100000
set_option maxHeartbeats 4000000
namespace Go.Proofs.YtdfjfagljngciaaGreat
open Go.RowKit Rx

theorem equal_words (X Y : Nat → Prop) (v v' : Value) (l l' : List UInt64) (w : World) (h : Sl rWord X w v l) (h' : Sl rWord Y w v' l') :
    Calls Tryz.prog 62 #[v, v'] w fun e w' => e = .returned (.bool (decide (l = l'))) ∧ Keep w w' := by
  obtain ⟨a, c, rfl, -⟩ := id h
  obtain ⟨a', c', rfl, -⟩ := id h'
  have hmx := h.len
  have hmx' := h'.len
  unfold maxLen at hmx hmx'
  refine calls_rx h62 Tryz.func62 rfl Tryz.mixed (by kernel_rfl) Tryz.results62 ?_
  by_cases q2 : l.length = l'.length
  rotate_left
  · have hne : ¬ l = l' := fun q => q2 (by rw [q])
    have q2' : ¬ (l.length : Int) = l'.length := by omega
    simp -dsimp [go_sem, q2, q2', hne]
    exact Keep.refl w
  have q2' : (l.length : Int) = l'.length := by omega
  simp -dsimp [go_sem, q2, q2']
  refine loop_intro (σ := Nat) (fun i => [.int .i64 i]) (fun i w' => i ≤ l'.length ∧ Keep w w' ∧ l.take i = l'.take i) (fun i => l'.length - i) 0 (by simp -dsimp [go_sem]; rfl) (by simp -dsimp [go_sem]) ⟨by simp, Keep.refl w, by simp⟩ ?_
  rintro i w1 ⟨hi, k1, ht⟩
  simp -dsimp [go_sem]
  by_cases g1 : i < l'.length
  rotate_left
  · obtain rfl : i = l'.length := by omega
    rw [List.take_length, ← q2, List.take_length] at ht
    simp -dsimp [go_sem, Nat.lt_irrefl, ht]
    exact k1
  have g2 : i < l.length := by omega
  have hx : l[i]? = some l[i] := List.getElem?_eq_getElem _
  generalize l[i] = x at hx
  have hy : l'[i]? = some l'[i] := List.getElem?_eq_getElem _
  generalize l'[i] = y at hy
  obtain ⟨b, off, c1, e, hb, -, hc⟩ := (h.keep k1).word hx
  cases e
  obtain ⟨b', off', c2, e, hb', -, hc'⟩ := (h'.keep k1).word hy
  cases e
  have i2 : (i : Int) < l'.length := by omega
  have i3 : (i : Int) < l.length := by omega
  by_cases hxy : x = y
  · have hxy' : (x.toNat : Int) = y.toNat := by rw [hxy]
    have ht2 := take_eq_step hx hy ht hxy
    simp -dsimp [go_sem, g1, g2, i2, i3, hb, hc, hb', hc', hxy']
    try simp -dsimp (disch := omega) only [IntWalk.i64_in, IntWalk.u64_in, IntWalk.u8_in]
    exact back_intro (i + 1) (by simp -dsimp [go_sem]) (by simp -dsimp [go_sem]) ⟨by omega, Keep.trans k1 (keep_drew w1), ht2⟩ (by omega)
  · have hxy' : ¬ x.toNat = y.toNat := fun q => hxy (UInt64.toNat_inj.1 q)
    have hxy2 : ¬ (x.toNat : Int) = y.toNat := by omega
    have hne := ne_at hx hy hxy
    simp -dsimp [go_sem, g1, g2, i2, i3, hb, hc, hb', hc', hxy', hxy2, hne]
    exact Keep.trans k1 (keep_drew w1)
theorem mk_bytes (n : Nat) (hn : n ≤ 2 ^ 40) (w : World) : ∃ w', (Instr.makeSlice 23 (.int .i64 n) (.int .i64 n)).run Tryz.prog w = .ok (.slice (some ⟨w.heap.size, 0, none⟩) n n) w' ∧ Ow rByte 5 (fun _ => True) w' (.slice (some ⟨w.heap.size, 0, none⟩) n n) (List.replicate n 0) ∧ Keep w w' := by
  obtain ⟨inf, hi, hz, hs, hb⟩ : ∃ inf, Tryz.prog.info? 5 = some inf ∧ inf.zero = some (.int .u8 0) ∧ inf.size = 1 ∧ inf.bytes = 1 := ⟨_, rfl, by kernel_rfl, by kernel_rfl, by kernel_rfl⟩
  obtain ⟨w', h1, h2, h3⟩ := run_make_full (P := Tryz.prog) w w.heap.size 23 5 inf (.int .u8 0) 1 Tryz.underlying23 hi hz hs .i64 .i64 n (by rw [hb]; omega) (by unfold maxLen; omega) (Nat.le_refl _)
  have hm : (madeCells (Value.int IntKind.u8 0).cells (n * 1)).toList = List.replicate n (Value.int .u8 0) := by
    unfold madeCells
    rw [Nat.mul_one]
    apply List.ext_getElem?
    intro j
    simp only [Array.toList_map, List.getElem?_map, Array.toList_range, List.getElem?_replicate]
    by_cases hj : j < n
    · rw [List.getElem?_range hj, if_pos hj]
      simp [Value.cells, Nat.mod_one]
    · rw [List.getElem?_eq_none (by simp; omega), if_neg hj]; rfl
  rw [hm] at h2
  have hc : Cs rByte (fun _ => True) w' (List.replicate n 0) (List.replicate n (Value.int .u8 0)) := by
    clear h1 h2 hm hn
    induction n with
    | zero => exact Cs.nil
    | succ n ih => rw [List.replicate_succ, List.replicate_succ]; exact Cs.cons (cs := [.int .u8 0]) rfl ih
  exact ⟨w', h1, .inr ⟨_, by rw [List.length_replicate]; exact .of_row h2, hc⟩, (Step.refl _ w).grown h3 (fun k hk => by cases hk)⟩
theorem Ow.byte_at {e : TypeId} {X : Nat → Prop} {w : World} {v : Value} {l : List UInt8} (h : Ow rByte e X w v l) {i : Nat} {x : UInt8} (hx : l[i]? = some x) : ∃ g off c, v = .slice (some ⟨g, off, none⟩) l.length c ∧ g < w.heap.size ∧ ownB v = some g ∧ w.cell? ⟨g, off + i, none⟩ = some (.int .u8 x.toNat) ∧
    (∀ j, w.frozen? ⟨g, j, none⟩ = false) ∧ ∀ y : UInt8, Ow rByte e X (w.setCell ⟨g, off + i, none⟩ (.int .u8 y.toNat)) v (l.set i y) := by
  obtain ⟨g, off, c, cs, rfl, hg, hb, hR, hc, hf, hs⟩ := h.at hx
  have hn : rByte.n = 1 := rfl
  have hR' : cs = [.int .u8 x.toNat] := hR
  subst hR'
  rw [hn, Nat.mul_one] at hc hs
  refine ⟨g, off, c, rfl, hg, hb, hc 0 _ rfl, hf, fun y => ?_⟩
  exact hs flat_byte y [.int .u8 y.toNat] rfl
/-- A byte of words. -/
def byteL (l : List UInt64) (i : Nat) : UInt8 := UInt8.ofNat ((l[i / 8]?.getD 0).toNat / 256 ^ (i % 8))
def unpackL (l : List UInt64) (n : Nat) : List UInt8 := (List.range n).map (byteL l)
theorem unpackL_len (l : List UInt64) (n : Nat) : (unpackL l n).length = n := by simp [unpackL]
def unpackB (l : List UInt64) (n : Nat) : Bool := decide (needW n = l.length) && decide (packL (unpackL l n) = l)
theorem shr_run (x : UInt64) (r : Nat) (hr : r ≤ 7) (w : World) : (Op.shift .shr .u64 (x.toNat : Int) .i64 (8 * (r : Int))).run Tryz.prog w = .ok (.int .u64 ((x.toNat / 256 ^ r : Nat) : Int)) w := by
  have h1 : ¬ (8 * (r : Int)) < 0 := by omega
  have h2 : (8 * (r : Int)).toNat = 8 * r := by omega
  have h3 : min (8 * r) 64 = 8 * r := by omega
  have h4 : (256 : Nat) ^ r = 2 ^ (8 * r) := by rw [show (256 : Nat) = 2 ^ 8 from rfl, ← Nat.pow_mul]
  have h5 := x.toNat_lt
  have h6 : x.toNat / 256 ^ r ≤ x.toNat := Nat.div_le_self _ _
  simp [Op.shift, h1, h2, show IntKind.u64.bits = 64 from rfl, h3]
  rw [show (256 : Int) = 2 ^ 8 from rfl, ← Int.pow_mul]
theorem byte_wrap (m : Nat) : IntKind.u8.wrap (m : Int) = ((UInt8.ofNat m).toNat : Int) := by
  rw [UInt8.toNat_ofNat']
  simp [IntKind.wrap, IntKind.signed, IntKind.bits]
theorem take_next {l : List UInt64} {n i : Nat} {o : List UInt8} (hi : i < n) (hol : o.length = n) (ht : o.take i = (unpackL l n).take i) : (o.set i (byteL l i)).take (i + 1) = (unpackL l n).take (i + 1) := by
  have h1 : (unpackL l n)[i]? = some (byteL l i) := by unfold unpackL; rw [List.getElem?_map, List.getElem?_range hi]; rfl
  rw [List.take_add_one, List.take_add_one, h1, List.getElem?_set, if_pos rfl, if_pos (by omega), List.take_set_of_le (Nat.le_refl _), ht]
theorem words_Unpack (X : Nat → Prop) (v : Value) (l : List UInt64) (n : Nat) (hn : n ≤ 2 ^ 30) (w : World) (h : Sl rWord X w v l) :
    Calls Tryz.prog 128 #[v, .int .i64 n] w fun r w' => ∃ o, r = .returned (.tuple #[o, .bool (unpackB l n)]) ∧ (unpackB l n = true → Sl rByte (fun _ => False) w' o (unpackL l n)) ∧ Keep w w' := by
  obtain ⟨a, c, rfl, -⟩ := id h
  have hmx := h.len
  unfold maxLen at hmx
  refine calls_rx h128 Tryz.func128 rfl Tryz.mixed (by kernel_rfl) Tryz.results128 ?_
  simp -dsimp [go_sem]
  refine scope_intro (σ := Nat) (fun i => [.int .i64 i]) (fun i w' => i ≤ n ∧ needW n = l.length ∧ Step (fun _ => False) w w' ∧ ∃ o, Ow rByte 5 (fun _ => True) w' (.slice (some ⟨w.heap.size, 0, none⟩) n n) o ∧ o.length = n ∧ o.take i = (unpackL l n).take i) (fun i => n - i) (n + 1) [(0, (true, .slice a l.length c)), (1, (true, .int .i64 n)), (6, (true, .slice (some ⟨w.heap.size, 0, none⟩) n n))] ?_ ?_
  · have g0 : ¬ (n : Int) < 0 := by omega
    simp -dsimp [go_sem, g0]
    refine (words_Need n (by omega) w).mono ?_; rintro _ w1 ⟨rfl, rfl⟩; refine ret_intro ?_
    by_cases g1 : needW n = l.length
    rotate_left
    · simp -dsimp [go_sem, g1]
      unfold unpackB
      rw [decide_eq_false g1]
      exact ⟨_, ⟨rfl, rfl⟩, by simp, Keep.refl _⟩
    obtain ⟨w1, hm, o1, k1⟩ := mk_bytes n (by omega) w
    simp -dsimp [go_sem, g1, hm]
    by_cases g2 : n = 0
    · subst g2
      have hl0 : l = [] := List.length_eq_zero_iff.1 (by simp [needW] at g1; omega)
      subst hl0
      simp -dsimp [go_sem]
      refine (words_Pack (fun _ => False) _ [] w1 ((o1.all flat_byte (Y := fun _ => False)).sl (fun _ _ q => q)) (by simp)).mono ?_; rintro _ w3 ⟨u, rfl, ou, k3, -⟩; refine ret_intro ?_
      obtain ⟨ua, uc, rfl, -⟩ := ou.slice
      simp -dsimp [go_sem]
      refine (equal_words (fun _ => False) X _ _ (packL []) [] w3 ((ou.all flat_word (Y := fun _ => False)).sl (fun _ _ q => q)) ((h.keep k1).keep k3)).mono ?_; rintro _ w4 ⟨rfl, k4⟩; refine ret_intro ?_
      rw [show packL [] = [] from rfl, decide_eq_true rfl]
      simp -dsimp [go_sem]
      have hub : unpackB [] 0 = true := by decide
      exact ⟨_, ⟨rfl, hub⟩, fun _ => (((o1.all flat_byte (Y := fun _ => False)).sl (fun _ _ q => q)).keep k3).keep k4, Keep.trans k1 (Keep.trans k3 k4)⟩
    have g3 : 0 < n := by omega
    have hl1 : 0 < l.length := by unfold needW at g1; rw [if_neg g2] at g1; omega
    have hx : l[0]? = some l[0] := List.getElem?_eq_getElem _
    generalize l[0] = x at hx
    obtain ⟨b, off, c', e, hb, -, hc⟩ := (h.keep k1).word hx
    cases e
    rw [Nat.add_zero] at hc
    have hy : (List.replicate n (0 : UInt8))[0]? = some 0 := by rw [List.getElem?_replicate, if_pos g3]
    obtain ⟨gb, off6, c6', e6, hgl6, hgo6, hgc6, hgf6, hw6⟩ := o1.byte_at hy
    simp only [List.length_replicate, Value.slice.injEq, Option.some.injEq, Addr.mk.injEq, and_true] at e6
    obtain ⟨⟨rfl, rfl⟩, -, rfl⟩ := e6
    have e0 : IntKind.i64.wrap 0 = 0 := by decide
    have hl2 : (0 : Int) < l.length := by omega
    simp -dsimp [go_sem, g3, hb, hc, hl1, hl2, hgl6, hgc6, hgf6, e0]
    have hB : IntKind.u8.wrap (x.toNat : Int) = ((byteL l 0).toNat : Int) := by
      unfold byteL
      rw [show 0 / 8 = 0 from rfl, hx, Option.getD_some, ← byte_wrap]
      simp
    rw [hB]
    have o3 := hw6 (byteL l 0)
    have e01 : IntKind.i64.wrap 1 = ((0 + 1 : Nat) : Int) := by decide
    rw [e01]
    exact back_intro 1 (by simp -dsimp [go_sem]) (by simp -dsimp [go_sem]) ⟨by omega, g1, Step.keep k1 ((Step.refl (fun k => k = w.heap.size) w1).set (p := ⟨w.heap.size, 0, none⟩) (.inl rfl) _) (fun j q => by omega), _, o3, by rw [List.length_set, List.length_replicate], take_next g3 (by simp) (by simp)⟩ (by omega)
  rintro i w2 ⟨hi, hnw, k2, o, o2, hol, hot⟩
  have hl0 : o.length = n := hol
  simp -dsimp [go_sem]
  by_cases g1 : i < n
  · have hil : i / 8 < l.length := by unfold needW at hnw; split at hnw <;> omega
    have hx : l[i / 8]? = some l[i / 8] := List.getElem?_eq_getElem _
    generalize l[i / 8] = x at hx
    obtain ⟨b, off, c', e, hb, -, hc⟩ := (h.keep k2).word hx
    cases e
    have hy : o[i]? = some o[i] := List.getElem?_eq_getElem _
    generalize o[i] = y at hy
    obtain ⟨gb, off6, c6', e6, hgl6, hgo6, hgc6, hgf6, hw6⟩ := o2.byte_at hy
    simp only [hol, Value.slice.injEq, Option.some.injEq, Addr.mk.injEq, and_true] at e6
    obtain ⟨⟨rfl, rfl⟩, -, rfl⟩ := e6
    rw [Nat.zero_add] at hgc6
    simp only [Nat.zero_add] at hw6
    have e2 : (i : Int).tdiv 8 = (i : Int) / 8 := Int.tdiv_eq_ediv_of_nonneg (by omega)
    have e1 : (i : Int).tmod 8 = (i : Int) % 8 := Int.tmod_eq_emod_of_nonneg (by omega)
    have ew8 : IntKind.i64.wrap ((i : Int) / 8) = (i : Int) / 8 := IntWalk.i64_in _ (by omega)
    have es8 : IntKind.i64.wrap (8 * ((i : Int) % 8)) = 8 * ((i : Int) % 8) := IntWalk.i64_in _ (by omega)
    have hi8 : ((i : Int) / 8).toNat = i / 8 := by omega
    have hi9 : 0 ≤ (i : Int) / 8 := by omega
    have hi7 : (i : Int) / 8 < l.length := by omega
    have g1' : (i : Int) < n := by omega
    have hsh : ∀ w, (Op.shift .shr .u64 (x.toNat : Int) .i64 (8 * ((i : Int) % 8))).run Tryz.prog w = .ok (.int .u64 ((x.toNat / 256 ^ (i % 8) : Nat) : Int)) w := by
      intro w
      have := shr_run x (i % 8) (by omega) w
      rwa [show ((i % 8 : Nat) : Int) = (i : Int) % 8 from by omega] at this
    simp -dsimp [go_sem, g1, g1', hb, hc, e1, e2, ew8, es8, hi8, hi9, hi7, hil, hgl6, hgc6, hgf6, hsh]
    have hB : IntKind.u8.wrap ((x.toNat : Int) / 2 ^ (8 * ((i : Int) % 8)).toNat) = ((byteL l i).toNat : Int) := by
      have h2 : (8 * ((i : Int) % 8)).toNat = 8 * (i % 8) := by omega
      unfold byteL
      rw [hx, Option.getD_some, ← byte_wrap, h2]
      congr 1
      rw [show (256 : Nat) = 2 ^ 8 from rfl, ← Nat.pow_mul]
      simp
    rw [hB]
    have o3 := hw6 (byteL l i)
    try simp -dsimp (disch := omega) only [IntWalk.i64_in, IntWalk.u64_in, IntWalk.u8_in]
    exact back_intro (i + 1) (by simp -dsimp [go_sem]) (by simp -dsimp [go_sem]) ⟨by omega, hnw, Step.keep k2 ((Step.refl (fun k => k = w.heap.size) w2).set (p := ⟨w.heap.size, i, none⟩) (.inl rfl) _) (fun j q => by omega), _, o3, by rw [List.length_set]; exact hol, take_next g1 hol hot⟩ (by omega)
  obtain rfl : i = n := by omega
  have ho : o = unpackL l i := by
    rw [List.take_of_length_le (by omega), List.take_of_length_le (by rw [unpackL_len]; omega)] at hot
    exact hot
  subst ho
  simp -dsimp [go_sem, Nat.lt_irrefl]
  refine (words_Pack (fun _ => False) _ (unpackL l i) w2 (by have := (o2.all flat_byte (Y := fun _ => False)).sl (fun _ _ q => q); rw [unpackL_len] at hol; exact this) (by rw [unpackL_len]; omega)).mono ?_; rintro _ w3 ⟨u, rfl, ou, k3, -⟩; refine ret_intro ?_
  obtain ⟨ua, uc, rfl, -⟩ := ou.slice
  simp -dsimp [go_sem]
  refine (equal_words (fun _ => False) X _ _ (packL (unpackL l i)) l w3 ((ou.all flat_word (Y := fun _ => False)).sl (fun _ _ q => q)) ((h.keep k2).keep k3)).mono ?_; rintro _ w4 ⟨rfl, k4⟩; refine ret_intro ?_
  unfold unpackB
  rw [decide_eq_true hnw]
  cases hq : decide (packL (unpackL l i) = l)
  · simp -dsimp [go_sem]
    exact Keep.trans k2 (Keep.trans k3 k4)
  · simp -dsimp [go_sem]
    have := (o2.all flat_byte (Y := fun _ => False)).sl (fun _ _ q => q)
    exact ⟨(this.keep k3).keep k4, Keep.trans k2 (Keep.trans k3 k4)⟩
end Go.Proofs.YtdfjfagljngciaaGreat
