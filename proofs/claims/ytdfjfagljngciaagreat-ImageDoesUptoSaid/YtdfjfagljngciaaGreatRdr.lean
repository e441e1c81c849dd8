/- Package words: a Reader. Package words: Unpack, a Reader's Text. Package words: a Reader's Text. Package check: Open. -/
import Derived.Test.YtdfjfagljngciaaGreatWrt
import Derived.Test.YtdfjfagljngciaaGreatApa
set_option linter.all false
set_option maxRecDepth 100000
set_option maxHeartbeats 4000000
namespace Go.Proofs.YtdfjfagljngciaaGreat
open Go.RowKit Rx

/-- A reader: the words that it has still, whether it is bad. -/
structure RdAt (w : World) (b : Nat) (l : List UInt64) (bad : Bool) : Prop where
  hb : ∃ v, w.heap[b]? = some (.cells #[v, .bool bad] 137 (0, 0)) ∧ Sl rWord (fun k => b ≤ k) w v l
theorem RdAt.step {O : Nat → Prop} {w w' : World} {b : Nat} {l : List UInt64} {bad : Bool} (h : RdAt w b l bad) (hs : Step O w w') (hn : ∀ k, O k → b < k) : RdAt w' b l bad := by
  obtain ⟨v, h1, h2⟩ := h.hb
  exact ⟨v, hs.blk h1 (fun q => Nat.lt_irrefl _ (hn b q)), h2.step hs (fun k q => Nat.le_of_lt (hn k q))⟩
theorem RdAt.keep {w w' : World} {b : Nat} {l : List UInt64} {bad : Bool} (h : RdAt w b l bad) (hs : Keep w w') : RdAt w' b l bad := h.step hs (fun _ q => q.elim)
theorem RdAt.lt {w : World} {b : Nat} {l : List UInt64} {bad : Bool} (h : RdAt w b l bad) : b < w.heap.size := by
  obtain ⟨v, h1, -⟩ := h.hb
  exact blk_lt h1
theorem words_New (X : Nat → Prop) (v : Value) (l : List UInt64) (hl : l.length ≤ 2 ^ 40) (w : World) (h : Sl rWord X w v l) :
    Calls Tryz.prog 57 #[v] w fun r w' => ∃ b, r = .returned (.pointer (some ⟨b, 0, none⟩)) ∧ RdAt w' b l false ∧ Keep w w' ∧ w.heap.size ≤ b := by
  obtain ⟨a, c, rfl, -⟩ := id h
  refine calls_rx h57 Tryz.func57 rfl Tryz.mixed (by kernel_rfl) Tryz.results57 ?_
  simp -dsimp [go_sem]
  refine (clone_words X _ l w h hl).mono ?_; rintro _ w1 ⟨v1, rfl, o1, k1, b1⟩; refine ret_intro ?_
  obtain ⟨a1, c1, rfl, -⟩ := o1.slice
  simp -dsimp [go_sem]
  generalize hW : w1.alloc _ = w2
  obtain ⟨R2, k2, z2⟩ := alloc1 hW
  clear hW
  have l1 := k1.size
  refine ⟨⟨_, R2, (((o1.keep k2).all flat_word (Y := fun k => w1.heap.size ≤ k)).sl (fun g hg q => by have := o1.lt hg; omega))⟩, Keep.trans k1 k2, l1⟩
theorem reader_Bad (b : Nat) (l : List UInt64) (bad : Bool) (w : World) (h : RdAt w b l bad) :
    Calls Tryz.prog 59 #[.pointer (some ⟨b, 0, none⟩)] w fun r w' => r = .returned (.bool bad) ∧ w = w' := by
  obtain ⟨v, H0, -⟩ := h.hb
  refine calls_rx h59 Tryz.func59 rfl Tryz.mixed (by kernel_rfl) Tryz.results59 ?_
  have H0c := blk_cell H0; have H0f := blk_free H0; have H0l := blk_lt H0
  simp -dsimp [go_sem, H0c, H0f, H0l]
theorem reader_spoil (b : Nat) (l : List UInt64) (bad : Bool) (w : World) (h : RdAt w b l bad) :
    Calls Tryz.prog 99 #[.pointer (some ⟨b, 0, none⟩)] w fun r w' => (∃ u, r = .returned u) ∧ RdAt w' b l true ∧ Step (fun k => k = b) w w' := by
  obtain ⟨v, H0, hv⟩ := h.hb
  refine calls_rx h99 Tryz.func99 rfl Tryz.mixed (by kernel_rfl) Tryz.results99 ?_
  have H0c := blk_cell H0; have H0f := blk_free H0; have H0l := blk_lt H0
  simp -dsimp [go_sem, H0c, H0f, H0l]
  generalize qw1 : World.setCell _ _ _ = w1; have sw1 : Step (fun k => k = b) w w1 := by (rw [← qw1]; (repeat (with_reducible refine Step.set ?_ ?_ _)); (with_reducible exact Step.refl _ _); all_goals exact .inl (by simp))
  replace H0 : (World.heap w1)[b]? = some (.cells #[v, .bool true] 137 (0, 0)) := by (rw [← qw1]; apply blk_eq; (case h => ((repeat (first | with_reducible apply blk_set | with_reducible refine blk_far ?_ (by simp) _)); (exact H0))); (case e => (first | rfl | simp)))
  exact ⟨⟨v, H0, hv.step sw1 (fun k q => by omega)⟩, sw1⟩
def takeR (n : Nat) (l : List UInt64) (bad : Bool) : Option (List UInt64 × List UInt64) := if bad = true ∨ l.length < n then none else some (l.take n, l.drop n)
theorem reader_take (b n : Nat) (hn : n ≤ 2 ^ 40) (l : List UInt64) (bad : Bool) (w : World) (h : RdAt w b l bad) :
    Calls Tryz.prog 98 #[.pointer (some ⟨b, 0, none⟩), .int .i64 n] w fun r w' => Step (fun k => k = b) w w' ∧
      ((takeR n l bad = none ∧ r = .returned (.slice none 0 0) ∧ RdAt w' b l true) ∨ ∃ p o, takeR n l bad = some p ∧ r = .returned o ∧ Sl rWord (fun k => b ≤ k) w' o p.1 ∧ RdAt w' b p.2 false) := by
  obtain ⟨v, H0, hv⟩ := h.hb
  obtain ⟨a, c, rfl, -⟩ := id hv
  have hml := hv.len
  unfold maxLen at hml
  refine calls_rx h98 Tryz.func98 rfl Tryz.mixed (by kernel_rfl) Tryz.results98 ?_
  unfold takeR
  simp -dsimp [go_sem]
  refine (reader_Bad b l bad w h).mono ?_; rintro _ w1 ⟨rfl, rfl⟩; refine ret_intro ?_
  cases bad
  rotate_left
  · simp -dsimp [go_sem]
    refine (reader_spoil b l true w h).mono ?_; rintro _ w1 ⟨⟨u, rfl⟩, h1, s1⟩; refine ret_intro ?_
    simp -dsimp [go_sem]
    exact ⟨s1, h1⟩
  have H0c := blk_cell H0; have H0f := blk_free H0; have H0l := blk_lt H0
  by_cases g : l.length < n
  · have g' : (l.length : Int) < n := by omega
    simp -dsimp [go_sem, H0c, H0f, H0l, g, g']
    refine (reader_spoil b l false w h).mono ?_; rintro _ w1 ⟨⟨u, rfl⟩, h1, s1⟩; refine ret_intro ?_
    simp -dsimp [go_sem]
    exact ⟨s1, .inl ⟨g, h1⟩⟩
  have g' : ¬ (l.length : Int) < n := by omega
  obtain ⟨a', c', e, hc1, hc2, o1⟩ := hv.cut (i := 0) (m := n) (by omega) (by omega)
  cases e
  obtain ⟨a', c', e, -, -, o2⟩ := hv.cut (i := n) (m := l.length) (by omega) (by omega)
  cases e
  have i1 : (n : Int) ≤ c := by omega
  have i2 : (n : Int) ≤ l.length := by omega
  have i3 : (l.length : Int) ≤ c := by omega
  have i4 : n ≤ c := by omega
  have i5 : n ≤ l.length := by omega
  simp -dsimp [go_sem, H0c, H0f, H0l, g, g', i1, i2, i3, i4, i5, hc1]
  generalize qw1 : World.setCell _ _ _ = w1; have sw1 : Step (fun k => k = b) w w1 := by (rw [← qw1]; (repeat (with_reducible refine Step.set ?_ ?_ _)); (with_reducible exact Step.refl _ _); all_goals exact .inl (by simp))
  replace H0 : (World.heap w1)[b]? = some (.cells #[.slice (if c = n then a else Option.map (fun x => x.add n) a) (l.length - n) (c - n), .bool false] 137 (0, 0)) := by (rw [← qw1]; apply blk_eq; (case h => ((repeat (first | with_reducible apply blk_set | with_reducible refine blk_far ?_ (by simp) _)); (exact H0))); (case e => (first | rfl | simp)))
  refine ⟨sw1, ?_, ⟨_, H0, ?_⟩⟩
  · have := o1.step sw1 (fun k q => by omega)
    have ha0 : (if c = 0 then a else Option.map (fun x : Addr => x.add (0 * rWord.n)) a) = a := by
      rw [Nat.zero_mul]
      cases a with
      | none => simp
      | some p => simp [Addr.add]
    unfold sliced at this
    rw [ha0] at this
    simpa using this
  · have := o2.step sw1 (fun k q => by omega)
    simpa [sliced, rWord, repOf, List.take_of_length_le] using this
def numR (l : List UInt64) (bad : Bool) : Int × List UInt64 × Bool :=
  if bad = true then (0, l, true) else match l with | [] => (0, [], true) | x :: r => if 4611686018427387904 < x.toNat then (0, r, true) else (x.toNat, r, false)
theorem reader_Num (b : Nat) (l : List UInt64) (bad : Bool) (w : World) (h : RdAt w b l bad) :
    Calls Tryz.prog 58 #[.pointer (some ⟨b, 0, none⟩)] w fun r w' => r = .returned (.int .i64 (numR l bad).1) ∧ RdAt w' b (numR l bad).2.1 (numR l bad).2.2 ∧ Step (fun k => k = b) w w' := by
  refine calls_rx h58 Tryz.func58 rfl Tryz.mixed (by kernel_rfl) Tryz.results58 ?_
  simp -dsimp [go_sem]
  refine (reader_take b 1 (by omega) l bad w h).mono ?_
  rintro _ w1 ⟨s1, ⟨h1, rfl, h2⟩ | ⟨p, o, h1, rfl, h2, h3⟩⟩
  · refine ret_intro ?_
    have hn : numR l bad = (0, l, true) := by
      unfold numR
      by_cases q : bad = true
      · rw [if_pos q]
      · rw [if_neg q]
        unfold takeR at h1
        rw [ite_eq_left_iff] at h1
        cases l with
        | nil => rfl
        | cons x l => exact absurd (h1 (by simp [q])) (by simp)
    rw [hn]
    simp -dsimp [go_sem]
    exact ⟨h2, s1⟩
  · refine ret_intro ?_
    unfold takeR at h1
    split at h1
    · cases h1
    rename_i g
    simp only [not_or, Nat.not_lt, Bool.not_eq_true] at g
    obtain ⟨rfl, g2⟩ := g
    cases l with
    | nil => simp at g2
    | cons x l =>
      simp at h1
      subst h1
      simp only at h2 h3
      obtain ⟨q, off, c', e, hq, -, hc⟩ := h2.word (i := 0) (x := x) (by simp)
      subst e
      simp only [List.length_cons, List.length_nil]
      rw [Nat.add_zero] at hc
      by_cases g3 : 4611686018427387904 < x.toNat
      · have g4 : (4611686018427387904 : Int) < x.toNat := by omega
        rw [show numR (x :: l) false = (0, l, true) from by unfold numR; rw [if_neg (by decide)]; simp only; rw [if_pos g3]]
        simp -dsimp [go_sem, hq, hc, g3, g4]
        refine (reader_spoil b l false w1 h3).mono ?_
        rintro _ w2 ⟨⟨u, rfl⟩, h4, s2⟩
        refine ret_intro ?_
        simp -dsimp [go_sem]
        exact ⟨h4, s1.both s2⟩
      · have g4 : ¬ (4611686018427387904 : Int) < x.toNat := by omega
        rw [show numR (x :: l) false = ((x.toNat : Int), l, false) from by unfold numR; rw [if_neg (by decide)]; simp only; rw [if_neg g3]]
        simp -dsimp [go_sem, hq, hc, g3, g4]
        exact ⟨IntWalk.i64_in _ (by omega), h3, s1⟩
end Go.Proofs.YtdfjfagljngciaaGreat

set_option linter.all false
set_option maxRecDepth 100000
set_option maxHeartbeats 4000000
namespace Go.Proofs.YtdfjfagljngciaaGreat
open Go.RowKit Rx

theorem equal_words (X Y : Nat → Prop) (v v' : Value) (l l' : List UInt64) (w : World) (h : Sl rWord X w v l) (h' : Sl rWord Y w v' l') :
    Calls Tryz.prog 62 #[v, v'] w fun e w' => e = .returned (.bool (decide (l = l'))) ∧ Keep w w' := by
  obtain ⟨a, c, rfl, -⟩ := id h
  obtain ⟨a', c', rfl, -⟩ := id h'
  have hmx := h.len
  have hmx' := h'.len
  unfold maxLen at hmx hmx'
  refine calls_rx h62 Tryz.func62 rfl Tryz.mixed (by kernel_rfl) Tryz.results62 ?_
  by_cases q2 : l.length = l'.length
  rotate_left
  · have hne : ¬ l = l' := fun q => q2 (by rw [q])
    have q2' : ¬ (l.length : Int) = l'.length := by omega
    simp -dsimp [go_sem, q2, q2', hne]
    exact Keep.refl w
  have q2' : (l.length : Int) = l'.length := by omega
  simp -dsimp [go_sem, q2, q2']
  refine loop_intro (σ := Nat) (fun i => [.int .i64 i]) (fun i w' => i ≤ l'.length ∧ Keep w w' ∧ l.take i = l'.take i) (fun i => l'.length - i) 0 (by simp -dsimp [go_sem]; rfl) (by simp -dsimp [go_sem]) ⟨by simp, Keep.refl w, by simp⟩ ?_
  rintro i w1 ⟨hi, k1, ht⟩
  simp -dsimp [go_sem]
  by_cases g1 : i < l'.length
  rotate_left
  · obtain rfl : i = l'.length := by omega
    rw [List.take_length, ← q2, List.take_length] at ht
    simp -dsimp [go_sem, Nat.lt_irrefl, ht]
    exact k1
  have g2 : i < l.length := by omega
  have hx : l[i]? = some l[i] := List.getElem?_eq_getElem _
  generalize l[i] = x at hx
  have hy : l'[i]? = some l'[i] := List.getElem?_eq_getElem _
  generalize l'[i] = y at hy
  obtain ⟨b, off, c1, e, hb, -, hc⟩ := (h.keep k1).word hx
  cases e
  obtain ⟨b', off', c2, e, hb', -, hc'⟩ := (h'.keep k1).word hy
  cases e
  have i2 : (i : Int) < l'.length := by omega
  have i3 : (i : Int) < l.length := by omega
  by_cases hxy : x = y
  · have hxy' : (x.toNat : Int) = y.toNat := by rw [hxy]
    have ht2 := take_eq_step hx hy ht hxy
    simp -dsimp [go_sem, g1, g2, i2, i3, hb, hc, hb', hc', hxy']
    try simp -dsimp (disch := omega) only [IntWalk.i64_in, IntWalk.u64_in, IntWalk.u8_in]
    exact back_intro (i + 1) (by simp -dsimp [go_sem]) (by simp -dsimp [go_sem]) ⟨by omega, Keep.trans k1 (keep_drew w1), ht2⟩ (by omega)
  · have hxy' : ¬ x.toNat = y.toNat := fun q => hxy (UInt64.toNat_inj.1 q)
    have hxy2 : ¬ (x.toNat : Int) = y.toNat := by omega
    have hne := ne_at hx hy hxy
    simp -dsimp [go_sem, g1, g2, i2, i3, hb, hc, hb', hc', hxy', hxy2, hne]
    exact Keep.trans k1 (keep_drew w1)
theorem mk_bytes (n : Nat) (hn : n ≤ 2 ^ 40) (w : World) : ∃ w', (Instr.makeSlice 23 (.int .i64 n) (.int .i64 n)).run Tryz.prog w = .ok (.slice (some ⟨w.heap.size, 0, none⟩) n n) w' ∧ Ow rByte 5 (fun _ => True) w' (.slice (some ⟨w.heap.size, 0, none⟩) n n) (List.replicate n 0) ∧ Keep w w' := by
  obtain ⟨inf, hi, hz, hs, hb⟩ : ∃ inf, Tryz.prog.info? 5 = some inf ∧ inf.zero = some (.int .u8 0) ∧ inf.size = 1 ∧ inf.bytes = 1 := ⟨_, rfl, by kernel_rfl, by kernel_rfl, by kernel_rfl⟩
  obtain ⟨w', h1, h2, h3⟩ := run_make_full (P := Tryz.prog) w w.heap.size 23 5 inf (.int .u8 0) 1 Tryz.underlying23 hi hz hs .i64 .i64 n (by rw [hb]; omega) (by unfold maxLen; omega) (Nat.le_refl _)
  have hm : (madeCells (Value.int IntKind.u8 0).cells (n * 1)).toList = List.replicate n (Value.int .u8 0) := by
    unfold madeCells
    rw [Nat.mul_one]
    apply List.ext_getElem?
    intro j
    simp only [Array.toList_map, List.getElem?_map, Array.toList_range, List.getElem?_replicate]
    by_cases hj : j < n
    · rw [List.getElem?_range hj, if_pos hj]
      simp [Value.cells, Nat.mod_one]
    · rw [List.getElem?_eq_none (by simp; omega), if_neg hj]; rfl
  rw [hm] at h2
  have hc : Cs rByte (fun _ => True) w' (List.replicate n 0) (List.replicate n (Value.int .u8 0)) := by
    clear h1 h2 hm hn
    induction n with
    | zero => exact Cs.nil
    | succ n ih => rw [List.replicate_succ, List.replicate_succ]; exact Cs.cons (cs := [.int .u8 0]) rfl ih
  exact ⟨w', h1, .inr ⟨_, by rw [List.length_replicate]; exact .of_row h2, hc⟩, (Step.refl _ w).grown h3 (fun k hk => by cases hk)⟩
theorem Ow.byte_at {e : TypeId} {X : Nat → Prop} {w : World} {v : Value} {l : List UInt8} (h : Ow rByte e X w v l) {i : Nat} {x : UInt8} (hx : l[i]? = some x) : ∃ g off c, v = .slice (some ⟨g, off, none⟩) l.length c ∧ g < w.heap.size ∧ ownB v = some g ∧ w.cell? ⟨g, off + i, none⟩ = some (.int .u8 x.toNat) ∧
    (∀ j, w.frozen? ⟨g, j, none⟩ = false) ∧ ∀ y : UInt8, Ow rByte e X (w.setCell ⟨g, off + i, none⟩ (.int .u8 y.toNat)) v (l.set i y) := by
  obtain ⟨g, off, c, cs, rfl, hg, hb, hR, hc, hf, hs⟩ := h.at hx
  have hn : rByte.n = 1 := rfl
  have hR' : cs = [.int .u8 x.toNat] := hR
  subst hR'
  rw [hn, Nat.mul_one] at hc hs
  refine ⟨g, off, c, rfl, hg, hb, hc 0 _ rfl, hf, fun y => ?_⟩
  exact hs flat_byte y [.int .u8 y.toNat] rfl
/-- A byte of words. -/
def byteL (l : List UInt64) (i : Nat) : UInt8 := UInt8.ofNat ((l[i / 8]?.getD 0).toNat / 256 ^ (i % 8))
def unpackL (l : List UInt64) (n : Nat) : List UInt8 := (List.range n).map (byteL l)
theorem unpackL_len (l : List UInt64) (n : Nat) : (unpackL l n).length = n := by simp [unpackL]
def unpackB (l : List UInt64) (n : Nat) : Bool := decide (needW n = l.length) && decide (packL (unpackL l n) = l)
theorem shr_run (x : UInt64) (r : Nat) (hr : r ≤ 7) (w : World) : (Op.shift .shr .u64 (x.toNat : Int) .i64 (8 * (r : Int))).run Tryz.prog w = .ok (.int .u64 ((x.toNat / 256 ^ r : Nat) : Int)) w := by
  have h1 : ¬ (8 * (r : Int)) < 0 := by omega
  have h2 : (8 * (r : Int)).toNat = 8 * r := by omega
  have h3 : min (8 * r) 64 = 8 * r := by omega
  have h4 : (256 : Nat) ^ r = 2 ^ (8 * r) := by rw [show (256 : Nat) = 2 ^ 8 from rfl, ← Nat.pow_mul]
  have h5 := x.toNat_lt
  have h6 : x.toNat / 256 ^ r ≤ x.toNat := Nat.div_le_self _ _
  simp [Op.shift, h1, h2, show IntKind.u64.bits = 64 from rfl, h3]
  rw [show (256 : Int) = 2 ^ 8 from rfl, ← Int.pow_mul]
theorem byte_wrap (m : Nat) : IntKind.u8.wrap (m : Int) = ((UInt8.ofNat m).toNat : Int) := by
  rw [UInt8.toNat_ofNat']
  simp [IntKind.wrap, IntKind.signed, IntKind.bits]
theorem take_next {l : List UInt64} {n i : Nat} {o : List UInt8} (hi : i < n) (hol : o.length = n) (ht : o.take i = (unpackL l n).take i) : (o.set i (byteL l i)).take (i + 1) = (unpackL l n).take (i + 1) := by
  have h1 : (unpackL l n)[i]? = some (byteL l i) := by unfold unpackL; rw [List.getElem?_map, List.getElem?_range hi]; rfl
  rw [List.take_add_one, List.take_add_one, h1, List.getElem?_set, if_pos rfl, if_pos (by omega), List.take_set_of_le (Nat.le_refl _), ht]
theorem words_Unpack (X : Nat → Prop) (v : Value) (l : List UInt64) (n : Nat) (hn : n ≤ 2 ^ 30) (w : World) (h : Sl rWord X w v l) :
    Calls Tryz.prog 128 #[v, .int .i64 n] w fun r w' => ∃ o, r = .returned (.tuple #[o, .bool (unpackB l n)]) ∧ (unpackB l n = true → Sl rByte (fun _ => False) w' o (unpackL l n)) ∧ Keep w w' := by
  obtain ⟨a, c, rfl, -⟩ := id h
  have hmx := h.len
  unfold maxLen at hmx
  refine calls_rx h128 Tryz.func128 rfl Tryz.mixed (by kernel_rfl) Tryz.results128 ?_
  simp -dsimp [go_sem]
  refine scope_intro (σ := Nat) (fun i => [.int .i64 i]) (fun i w' => i ≤ n ∧ needW n = l.length ∧ Step (fun _ => False) w w' ∧ ∃ o, Ow rByte 5 (fun _ => True) w' (.slice (some ⟨w.heap.size, 0, none⟩) n n) o ∧ o.length = n ∧ o.take i = (unpackL l n).take i) (fun i => n - i) (n + 1) [(0, (true, .slice a l.length c)), (1, (true, .int .i64 n)), (6, (true, .slice (some ⟨w.heap.size, 0, none⟩) n n))] ?_ ?_
  · have g0 : ¬ (n : Int) < 0 := by omega
    simp -dsimp [go_sem, g0]
    refine (words_Need n (by omega) w).mono ?_; rintro _ w1 ⟨rfl, rfl⟩; refine ret_intro ?_
    by_cases g1 : needW n = l.length
    rotate_left
    · simp -dsimp [go_sem, g1]
      unfold unpackB
      rw [decide_eq_false g1]
      exact ⟨_, ⟨rfl, rfl⟩, by simp, Keep.refl _⟩
    obtain ⟨w1, hm, o1, k1⟩ := mk_bytes n (by omega) w
    simp -dsimp [go_sem, g1, hm]
    by_cases g2 : n = 0
    · subst g2
      have hl0 : l = [] := List.length_eq_zero_iff.1 (by simp [needW] at g1; omega)
      subst hl0
      simp -dsimp [go_sem]
      refine (words_Pack (fun _ => False) _ [] w1 ((o1.all flat_byte (Y := fun _ => False)).sl (fun _ _ q => q)) (by simp)).mono ?_; rintro _ w3 ⟨u, rfl, ou, k3, -⟩; refine ret_intro ?_
      obtain ⟨ua, uc, rfl, -⟩ := ou.slice
      simp -dsimp [go_sem]
      refine (equal_words (fun _ => False) X _ _ (packL []) [] w3 ((ou.all flat_word (Y := fun _ => False)).sl (fun _ _ q => q)) ((h.keep k1).keep k3)).mono ?_; rintro _ w4 ⟨rfl, k4⟩; refine ret_intro ?_
      rw [show packL [] = [] from rfl, decide_eq_true rfl]
      simp -dsimp [go_sem]
      have hub : unpackB [] 0 = true := by decide
      exact ⟨_, ⟨rfl, hub⟩, fun _ => (((o1.all flat_byte (Y := fun _ => False)).sl (fun _ _ q => q)).keep k3).keep k4, Keep.trans k1 (Keep.trans k3 k4)⟩
    have g3 : 0 < n := by omega
    have hl1 : 0 < l.length := by unfold needW at g1; rw [if_neg g2] at g1; omega
    have hx : l[0]? = some l[0] := List.getElem?_eq_getElem _
    generalize l[0] = x at hx
    obtain ⟨b, off, c', e, hb, -, hc⟩ := (h.keep k1).word hx
    cases e
    rw [Nat.add_zero] at hc
    have hy : (List.replicate n (0 : UInt8))[0]? = some 0 := by rw [List.getElem?_replicate, if_pos g3]
    obtain ⟨gb, off6, c6', e6, hgl6, hgo6, hgc6, hgf6, hw6⟩ := o1.byte_at hy
    simp only [List.length_replicate, Value.slice.injEq, Option.some.injEq, Addr.mk.injEq, and_true] at e6
    obtain ⟨⟨rfl, rfl⟩, -, rfl⟩ := e6
    have e0 : IntKind.i64.wrap 0 = 0 := by decide
    have hl2 : (0 : Int) < l.length := by omega
    simp -dsimp [go_sem, g3, hb, hc, hl1, hl2, hgl6, hgc6, hgf6, e0]
    have hB : IntKind.u8.wrap (x.toNat : Int) = ((byteL l 0).toNat : Int) := by
      unfold byteL
      rw [show 0 / 8 = 0 from rfl, hx, Option.getD_some, ← byte_wrap]
      simp
    rw [hB]
    have o3 := hw6 (byteL l 0)
    have e01 : IntKind.i64.wrap 1 = ((0 + 1 : Nat) : Int) := by decide
    rw [e01]
    exact back_intro 1 (by simp -dsimp [go_sem]) (by simp -dsimp [go_sem]) ⟨by omega, g1, Step.keep k1 ((Step.refl (fun k => k = w.heap.size) w1).set (p := ⟨w.heap.size, 0, none⟩) (.inl rfl) _) (fun j q => by omega), _, o3, by rw [List.length_set, List.length_replicate], take_next g3 (by simp) (by simp)⟩ (by omega)
  rintro i w2 ⟨hi, hnw, k2, o, o2, hol, hot⟩
  have hl0 : o.length = n := hol
  simp -dsimp [go_sem]
  by_cases g1 : i < n
  · have hil : i / 8 < l.length := by unfold needW at hnw; split at hnw <;> omega
    have hx : l[i / 8]? = some l[i / 8] := List.getElem?_eq_getElem _
    generalize l[i / 8] = x at hx
    obtain ⟨b, off, c', e, hb, -, hc⟩ := (h.keep k2).word hx
    cases e
    have hy : o[i]? = some o[i] := List.getElem?_eq_getElem _
    generalize o[i] = y at hy
    obtain ⟨gb, off6, c6', e6, hgl6, hgo6, hgc6, hgf6, hw6⟩ := o2.byte_at hy
    simp only [hol, Value.slice.injEq, Option.some.injEq, Addr.mk.injEq, and_true] at e6
    obtain ⟨⟨rfl, rfl⟩, -, rfl⟩ := e6
    rw [Nat.zero_add] at hgc6
    simp only [Nat.zero_add] at hw6
    have e2 : (i : Int).tdiv 8 = (i : Int) / 8 := Int.tdiv_eq_ediv_of_nonneg (by omega)
    have e1 : (i : Int).tmod 8 = (i : Int) % 8 := Int.tmod_eq_emod_of_nonneg (by omega)
    have ew8 : IntKind.i64.wrap ((i : Int) / 8) = (i : Int) / 8 := IntWalk.i64_in _ (by omega)
    have es8 : IntKind.i64.wrap (8 * ((i : Int) % 8)) = 8 * ((i : Int) % 8) := IntWalk.i64_in _ (by omega)
    have hi8 : ((i : Int) / 8).toNat = i / 8 := by omega
    have hi9 : 0 ≤ (i : Int) / 8 := by omega
    have hi7 : (i : Int) / 8 < l.length := by omega
    have g1' : (i : Int) < n := by omega
    have hsh : ∀ w, (Op.shift .shr .u64 (x.toNat : Int) .i64 (8 * ((i : Int) % 8))).run Tryz.prog w = .ok (.int .u64 ((x.toNat / 256 ^ (i % 8) : Nat) : Int)) w := by
      intro w
      have := shr_run x (i % 8) (by omega) w
      rwa [show ((i % 8 : Nat) : Int) = (i : Int) % 8 from by omega] at this
    simp -dsimp [go_sem, g1, g1', hb, hc, e1, e2, ew8, es8, hi8, hi9, hi7, hil, hgl6, hgc6, hgf6, hsh]
    have hB : IntKind.u8.wrap ((x.toNat : Int) / 2 ^ (8 * ((i : Int) % 8)).toNat) = ((byteL l i).toNat : Int) := by
      have h2 : (8 * ((i : Int) % 8)).toNat = 8 * (i % 8) := by omega
      unfold byteL
      rw [hx, Option.getD_some, ← byte_wrap, h2]
      congr 1
      rw [show (256 : Nat) = 2 ^ 8 from rfl, ← Nat.pow_mul]
      simp
    rw [hB]
    have o3 := hw6 (byteL l i)
    try simp -dsimp (disch := omega) only [IntWalk.i64_in, IntWalk.u64_in, IntWalk.u8_in]
    exact back_intro (i + 1) (by simp -dsimp [go_sem]) (by simp -dsimp [go_sem]) ⟨by omega, hnw, Step.keep k2 ((Step.refl (fun k => k = w.heap.size) w2).set (p := ⟨w.heap.size, i, none⟩) (.inl rfl) _) (fun j q => by omega), _, o3, by rw [List.length_set]; exact hol, take_next g1 hol hot⟩ (by omega)
  obtain rfl : i = n := by omega
  have ho : o = unpackL l i := by
    rw [List.take_of_length_le (by omega), List.take_of_length_le (by rw [unpackL_len]; omega)] at hot
    exact hot
  subst ho
  simp -dsimp [go_sem, Nat.lt_irrefl]
  refine (words_Pack (fun _ => False) _ (unpackL l i) w2 (by have := (o2.all flat_byte (Y := fun _ => False)).sl (fun _ _ q => q); rw [unpackL_len] at hol; exact this) (by rw [unpackL_len]; omega)).mono ?_; rintro _ w3 ⟨u, rfl, ou, k3, -⟩; refine ret_intro ?_
  obtain ⟨ua, uc, rfl, -⟩ := ou.slice
  simp -dsimp [go_sem]
  refine (equal_words (fun _ => False) X _ _ (packL (unpackL l i)) l w3 ((ou.all flat_word (Y := fun _ => False)).sl (fun _ _ q => q)) ((h.keep k2).keep k3)).mono ?_; rintro _ w4 ⟨rfl, k4⟩; refine ret_intro ?_
  unfold unpackB
  rw [decide_eq_true hnw]
  cases hq : decide (packL (unpackL l i) = l)
  · simp -dsimp [go_sem]
    exact Keep.trans k2 (Keep.trans k3 k4)
  · simp -dsimp [go_sem]
    have := (o2.all flat_byte (Y := fun _ => False)).sl (fun _ _ q => q)
    exact ⟨(this.keep k3).keep k4, Keep.trans k2 (Keep.trans k3 k4)⟩
end Go.Proofs.YtdfjfagljngciaaGreat

set_option linter.all false
set_option maxRecDepth 100000
set_option maxHeartbeats 4000000
namespace Go.Proofs.YtdfjfagljngciaaGreat
open Go.RowKit Rx

/-- Bytes as a string. -/
theorem Sl.strOf {P : Program} {X : Nat → Prop} {w : World} {v : Value} {l : List UInt8} (h : Sl rByte X w v l) {t s e : TypeId} (ht : P.underlying t = some (.slice e)) (hs : P.underlying s = some .string) (he : P.underlying e = some (.int .u8)) :
    (convert t s v).run P w = .ok (.string ⟨l.toArray⟩) w := by
  obtain ⟨a, c, rfl, -, -, h⟩ := h
  have hc : (Conv.bytesToString (.slice a l.length c)).run P w = .ok (.string ⟨l.toArray⟩) w := by
    have hfold : ∀ (l : List UInt8) (s : ByteArray), (l.map (fun x => (x.toNat : Int))).foldl (fun r n => r.push (UInt8.ofNat n.toNat)) s = ⟨s.data ++ l.toArray⟩ := by
      intro l
      induction l with
      | nil => intro s; simp
      | cons x r ih => intro s; rw [List.map_cons, List.foldl_cons, ih]; simp [ByteArray.push]
    cases a with
    | none =>
      have : l = [] := by
        cases l with
        | nil => rfl
        | cons x r => obtain ⟨_, _, e, _⟩ := h (by simp); cases e
      subst this; rfl
    | some ad =>
      have hl : (loadCells ad (l.map (fun x => (x.toNat : Int))).length).run P w = .ok ((l.map (fun x => (x.toNat : Int))).map (Value.int .u8)).toArray w := by
        have := run_loadCells_list (P := P) (w := w) ad ((l.map (fun x => (x.toNat : Int))).map (Value.int .u8)) (fun j u hu => ?_)
        · simpa using this
        · simp only [List.map_map, List.getElem?_map, Option.map_eq_some_iff] at hu
          obtain ⟨x, hx, rfl⟩ := hu
          obtain ⟨b, off, e, hb, -, hc⟩ := h (by have := (List.getElem?_eq_some_iff.1 hx).1; omega)
          cases e
          obtain ⟨cs, rfl, h3⟩ := hc j x hx
          simpa [Addr.add_mid, rByte, repOf] using h3 0 _ rfl
      rw [List.length_map] at hl
      rw [run_bytesToString w _ _ _ _ hl, hfold]
      simp
  simp [convert, Sem.run_bind, run_underlying ht, run_underlying hs, run_underlying he, hc]
/-- A text: of at most so many bytes. -/
def textR (limit : Nat) (l : List UInt64) (bad : Bool) : List UInt8 × List UInt64 × Bool :=
  let a := numR l bad
  let n := a.1.toNat
  if limit < n ∨ a.2.2 = true then ([], a.2.1, true)
  else if a.2.1.length < (needW n).toNat then ([], a.2.1, true)
  else if unpackB (a.2.1.take (needW n).toNat) n = true then (unpackL (a.2.1.take (needW n).toNat) n, a.2.1.drop (needW n).toNat, false) else ([], a.2.1.drop (needW n).toNat, true)
theorem numR_nn (l : List UInt64) (bad : Bool) : 0 ≤ (numR l bad).1 ∧ (numR l bad).1 ≤ 4611686018427387904 := by
  unfold numR
  split
  · simp
  · split
    · simp
    · split
      · simp
      · simp only; omega
theorem reader_Text (b limit : Nat) (hlm : limit ≤ 2 ^ 20) (l : List UInt64) (bad : Bool) (w : World) (h : RdAt w b l bad) :
    Calls Tryz.prog 100 #[.pointer (some ⟨b, 0, none⟩), .int .i64 limit] w fun r w' => r = .returned (.string ⟨(textR limit l bad).1.toArray⟩) ∧ RdAt w' b (textR limit l bad).2.1 (textR limit l bad).2.2 ∧ Step (fun k => k = b) w w' := by
  refine calls_rx h100 Tryz.func100 rfl Tryz.mixed (by kernel_rfl) Tryz.results100 ?_
  simp -dsimp [go_sem]
  refine (reader_Num b l bad w h).mono ?_
  rintro _ w1 ⟨rfl, h1, s1⟩
  refine ret_intro ?_
  have hnn := numR_nn l bad
  have hT : textR limit l bad = (if limit < (numR l bad).1.toNat ∨ (numR l bad).2.2 = true then ([], (numR l bad).2.1, true)
    else if (numR l bad).2.1.length < (needW (numR l bad).1.toNat).toNat then ([], (numR l bad).2.1, true)
    else if unpackB ((numR l bad).2.1.take (needW (numR l bad).1.toNat).toNat) (numR l bad).1.toNat = true then (unpackL ((numR l bad).2.1.take (needW (numR l bad).1.toNat).toNat) (numR l bad).1.toNat, (numR l bad).2.1.drop (needW (numR l bad).1.toNat).toNat, false) else ([], (numR l bad).2.1.drop (needW (numR l bad).1.toNat).toNat, true)) := rfl
  generalize textR limit l bad = T at hT ⊢
  generalize numR l bad = a at h1 hnn hT ⊢
  obtain ⟨n, l1, b1⟩ := a
  simp only at h1 hnn hT ⊢
  obtain ⟨m, rfl⟩ := Int.eq_ofNat_of_zero_le hnn.1
  rw [show ((m : Nat) : Int).toNat = m from rfl] at hT
  have hnb := needW_le m
  obtain ⟨K, hK⟩ := Int.eq_ofNat_of_zero_le hnb.1
  rw [hK, show ((K : Nat) : Int).toNat = K from rfl] at hT
  by_cases g1 : limit < m
  · have g1' : (limit : Int) < m := by omega
    rw [if_pos (.inl g1)] at hT
    subst hT
    simp -dsimp [go_sem, g1, g1']
    refine (reader_spoil b l1 b1 w1 h1).mono ?_; rintro _ w2 ⟨⟨u, rfl⟩, h2, s2⟩; refine ret_intro ?_
    simp -dsimp [go_sem]
    refine (reader_Bad b l1 true w2 h2).mono ?_; rintro _ w3 ⟨rfl, rfl⟩; refine ret_intro ?_
    simp -dsimp [go_sem]
    exact ⟨h2, s1.both s2⟩
  have g1' : ¬ (limit : Int) < m := by omega
  simp -dsimp [go_sem, g1, g1']
  refine (reader_Bad b l1 b1 w1 h1).mono ?_; rintro _ w2 ⟨rfl, rfl⟩; refine ret_intro ?_
  cases b1
  rotate_left
  · rw [if_pos (.inr rfl)] at hT
    subst hT
    simp -dsimp [go_sem]
    exact ⟨h1, s1⟩
  rw [if_neg (by simp [g1])] at hT
  simp -dsimp [go_sem]
  refine (words_Need m (by omega) w1).mono ?_; rintro _ w2 ⟨rfl, rfl⟩; refine ret_intro ?_
  rw [hK]
  simp -dsimp [go_sem]
  refine (reader_take b K (by omega) l1 false w1 h1).mono ?_
  rintro _ w2 ⟨s2, ⟨h2, rfl, h3⟩ | ⟨p, o, h2, rfl, h3, h4⟩⟩
  · refine ret_intro ?_
    have g2 : l1.length < K := by
      unfold takeR at h2
      rw [ite_eq_left_iff] at h2
      by_cases q : l1.length < K
      · exact q
      · exact absurd (h2 (by simp [q])) (by simp)
    rw [if_pos g2] at hT
    subst hT
    simp -dsimp [go_sem]
    refine (words_Unpack (fun _ => False) _ [] m (by omega) w2 (Sl.nil _ _ _)).mono ?_; rintro _ w3 ⟨o3, rfl, -, k3⟩; refine ret_intro ?_
    simp -dsimp [go_sem]
    refine (reader_Bad b l1 true w3 (h3.keep k3)).mono ?_; rintro _ w4 ⟨rfl, rfl⟩; refine ret_intro ?_
    simp -dsimp [go_sem]
    refine (reader_spoil b l1 true w3 (h3.keep k3)).mono ?_; rintro _ w4 ⟨⟨u, rfl⟩, h4, s4⟩; refine ret_intro ?_
    simp -dsimp [go_sem]
    exact ⟨h4, (s1.both s2).both ((Keep.any k3).both s4)⟩
  · refine ret_intro ?_
    unfold takeR at h2
    split at h2
    · cases h2
    rename_i g2
    simp only [not_or, Nat.not_lt] at g2
    rw [if_neg (by omega)] at hT
    simp only [Option.some.injEq] at h2
    subst h2
    simp only at h3 h4
    generalize l1.take K = L1 at h3 hT
    generalize l1.drop K = L2 at h4 hT
    obtain ⟨oa, oc, rfl, -⟩ := id h3
    simp -dsimp [go_sem]
    refine (words_Unpack _ _ _ m (by omega) w2 h3).mono ?_; rintro _ w3 ⟨o3, rfl, ho3, k3⟩; refine ret_intro ?_
    simp -dsimp [go_sem]
    refine (reader_Bad b _ false w3 (h4.keep k3)).mono ?_; rintro _ w4 ⟨rfl, rfl⟩; refine ret_intro ?_
    cases hu : unpackB L1 m
    · rw [hu, if_neg (by decide)] at hT
      subst hT
      simp -dsimp [go_sem]
      refine (reader_spoil b _ false w3 (h4.keep k3)).mono ?_; rintro _ w4 ⟨⟨u, rfl⟩, h5, s4⟩; refine ret_intro ?_
      simp -dsimp [go_sem]
      exact ⟨h5, (s1.both s2).both ((Keep.any k3).both s4)⟩
    · rw [hu, if_pos rfl] at hT
      subst hT
      have ho4 := ho3 hu
      obtain ⟨pa, pc, rfl, -⟩ := id ho4
      have hcv := ho4.strOf Tryz.underlying23 Tryz.underlying9 Tryz.underlying5
      simp -dsimp [go_sem, hcv]
      exact ⟨h4.keep k3, (s1.both s2).both (Keep.any k3)⟩
end Go.Proofs.YtdfjfagljngciaaGreat

set_option linter.all false
set_option maxRecDepth 100000
set_option maxHeartbeats 4000000
namespace Go.Proofs.YtdfjfagljngciaaGreat
open Go.RowKit Rx

theorem check_Open (X : Nat → Prop) (v : Value) (d : List UInt64) (s : UInt64) (hl : d.length ≤ 2 ^ 40) (w : World) (h : Sl rWord X w v (d ++ [s])) :
    Calls Tryz.prog 56 #[v] w fun r w' => ∃ o, r = .returned (.tuple #[o, .bool (decide (sumL d = s))]) ∧ (sumL d = s → Ow rWord 66 X w' o d ∧ ∀ g, ownB o = some g → w.heap.size ≤ g) ∧ Keep w w' := by
  have hlen : (d ++ [s]).length = d.length + 1 := by simp
  obtain ⟨a', c', e, hc1, hc2, o1⟩ := h.cut (i := 0) (m := d.length) (by omega) (by omega)
  obtain ⟨b, off, c, e', hb, -, hc⟩ := h.word (i := d.length) (x := s) (by simp)
  subst e'
  cases e
  rw [hlen] at hc1 h ⊢
  have p1 : Sl rWord X w (.slice (some ⟨b, off, none⟩) d.length c') d := by
    have ha0 : (if c' = 0 then some (⟨b, off, none⟩ : Addr) else Option.map (fun x : Addr => x.add (0 * rWord.n)) (some ⟨b, off, none⟩)) = some ⟨b, off, none⟩ := by
      rw [Nat.zero_mul]; simp [Addr.add]
    unfold sliced at o1
    rw [ha0] at o1
    simpa using o1
  unfold maxLen at hc2
  have e1 : IntKind.i64.wrap ((d.length : Int) + 1) = (d.length : Int) + 1 := IntWalk.i64_in _ (by omega)
  have e2 : IntKind.i64.wrap ((d.length : Int) + 1 - 1) = (d.length : Int) := by rw [Int.add_sub_cancel]; exact IntWalk.i64_in _ (by omega)
  have i1 : ¬ (d.length : Int) + 1 = 0 := by omega
  have i2 : (d.length : Int) ≤ c' := by omega
  have i3 : d.length ≤ c' := by omega
  have i4 : (d.length : Int) < (d.length : Int) + 1 := by omega
  have i5 : (0 : Int) ≤ d.length := by omega
  refine calls_rx h56 Tryz.func56 rfl Tryz.mixed (by kernel_rfl) Tryz.results56 ?_
  have e3 : IntKind.i64.wrap (d.length : Int) = (d.length : Int) := IntWalk.i64_in _ (by omega)
  simp -dsimp [go_sem, e1, e2, e3, i1, i2, i3, i4, i5, hb, hc]
  refine (check_Sum X _ d _ (p1.keep (keep_drew w))).mono ?_; rintro _ w1 ⟨rfl, k1⟩; refine ret_intro ?_
  have k01 := Keep.trans (keep_drew w) k1
  refine ⟨Keep.agree k01 (Agree.refl _), ?_⟩
  have hb1 := k01.lt hb
  simp -dsimp [go_sem, e1, e2, e3, i1, i2, i3, i4, i5, hb, hc]
  by_cases g : sumL d = s
  rotate_left
  · have g' : ¬ (sumL d).toNat = s.toNat := fun q => g (UInt64.toNat_inj.1 q)
    rw [decide_eq_false g]
    have g2 : ¬ ((sumL d).toNat : Int) = s.toNat := by omega
    simp -dsimp [go_sem, g2]
    exact ⟨fun q => absurd q g, k01⟩
  subst g
  rw [decide_eq_true rfl]
  simp -dsimp [go_sem, e1, e2, e3, i1, i2, i3, i4, i5]
  refine (clone_words X _ d w1 (p1.keep k01) hl).mono ?_
  rintro _ w2 ⟨u, rfl, o2, k2, b2⟩
  refine ret_intro ?_
  obtain ⟨ua, uc, rfl, -⟩ := o2.slice
  simp -dsimp [go_sem]
  have l1 := k01.size
  exact ⟨⟨o2, fun g hg => by have := b2 g hg; omega⟩, Keep.trans k01 k2⟩
end Go.Proofs.YtdfjfagljngciaaGreat
