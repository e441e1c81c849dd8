/- The reference: bytes as words, a text's words, how many words a node has. -/
import Derived.Test.YtdfjfagljngciaaGreatInode
import Derived.Laws.IdiomStrings
set_option linter.all false
set_option maxRecDepth 100000
set_option maxHeartbeats 4000000
namespace Go.Proofs.YtdfjfagljngciaaGreat
open Go.RowKit Rx

/-- Bytes as a number, the first one least. -/
def leN : List UInt8 → Nat
  | [] => 0
  | x :: l => x.toNat + 256 * leN l
theorem leN_app : ∀ (l : List UInt8) (x : UInt8), leN (l ++ [x]) = leN l + x.toNat * 256 ^ l.length
  | [], x => by simp [leN]
  | y :: l, x => by
    rw [List.cons_append, leN, leN, leN_app l x, List.length_cons, Nat.pow_succ, Nat.mul_add, ← Nat.mul_assoc, Nat.add_assoc]
    congr 2
    ac_rfl
theorem leN_lt : ∀ (l : List UInt8), leN l < 256 ^ l.length
  | [] => by simp [leN]
  | x :: l => by
    have h1 := leN_lt l
    have h2 := x.toNat_lt
    rw [leN, List.length_cons, Nat.pow_succ]
    have : 256 * (leN l + 1) ≤ 256 * 256 ^ l.length := Nat.mul_le_mul_left _ h1
    omega
def chunkL (l : List UInt8) (j : Nat) : List UInt8 := (l.drop (8 * j)).take 8
theorem chunk_lt (l : List UInt8) (j : Nat) : leN (chunkL l j) < 2 ^ 64 := by
  have h1 := leN_lt (chunkL l j)
  have h2 : (chunkL l j).length ≤ 8 := by unfold chunkL; rw [List.length_take]; omega
  exact Nat.lt_of_lt_of_le h1 (Nat.le_trans (Nat.pow_le_pow_right (by decide) h2) (by decide))
/-- Bytes as words. -/
def packL (l : List UInt8) : List UInt64 := (List.range ((l.length + 7) / 8)).map (fun j => UInt64.ofNat (leN (chunkL l j)))
theorem packL_len (l : List UInt8) : (packL l).length = (l.length + 7) / 8 := by simp [packL]
theorem packL_at {l : List UInt8} {j : Nat} (h : j < (l.length + 7) / 8) : (packL l)[j]? = some (UInt64.ofNat (leN (chunkL l j))) := by
  unfold packL
  rw [List.getElem?_map, List.getElem?_range h]; rfl
theorem chunk_app {l : List UInt8} {x : UInt8} {j : Nat} (h : j < l.length / 8) : chunkL (l ++ [x]) j = chunkL l j := by
  unfold chunkL
  rw [List.drop_append_of_le_length (by omega), List.take_append_of_le_length (by rw [List.length_drop]; omega)]
theorem chunk_last (l : List UInt8) (x : UInt8) : chunkL (l ++ [x]) (l.length / 8) = l.drop (8 * (l.length / 8)) ++ [x] := by
  unfold chunkL
  rw [List.drop_append_of_le_length (by omega), List.take_of_length_le (by rw [List.length_append, List.length_drop, List.length_singleton]; omega)]
theorem chunk_part (l : List UInt8) : chunkL l (l.length / 8) = l.drop (8 * (l.length / 8)) := by
  unfold chunkL
  rw [List.take_of_length_le (by rw [List.length_drop]; omega)]
theorem pack_next (l : List UInt8) (x : UInt8) : packL (l ++ [x]) = if l.length % 8 = 0 then packL l ++ [UInt64.ofNat x.toNat] else (packL l).set (l.length / 8) (UInt64.ofNat (leN (chunkL l (l.length / 8)) + x.toNat * 256 ^ (l.length % 8))) := by
  have hlast : leN (chunkL (l ++ [x]) (l.length / 8)) = leN (chunkL l (l.length / 8)) + x.toNat * 256 ^ (l.length % 8) := by
    rw [chunk_last, chunk_part, leN_app, List.length_drop]
    congr 3; omega
  apply List.ext_getElem?
  intro j
  have hL : (l ++ [x]).length = l.length + 1 := by simp
  split
  · rename_i h
    rcases Nat.lt_trichotomy j (l.length / 8) with g | g | g
    · rw [packL_at (by rw [hL]; omega), List.getElem?_append_left (by rw [packL_len]; omega), packL_at (by omega), chunk_app g]
    · subst g
      rw [packL_at (by rw [hL]; omega), List.getElem?_append_right (by rw [packL_len]; omega), packL_len, show l.length / 8 - (l.length + 7) / 8 = 0 from by omega, hlast, h, chunk_part, List.drop_eq_nil_of_le (by omega)]
      simp [leN]
    · rw [List.getElem?_eq_none (by rw [packL_len, hL]; omega), List.getElem?_eq_none (by rw [List.length_append, packL_len]; simp; omega)]
  · rename_i h
    rw [List.getElem?_set]
    rcases Nat.lt_trichotomy j (l.length / 8) with g | g | g
    · rw [if_neg (by omega), packL_at (by rw [hL]; omega), packL_at (by omega), chunk_app g]
    · subst g
      rw [if_pos rfl, if_pos (by rw [packL_len]; omega), packL_at (by rw [hL]; omega), hlast]
    · rw [if_neg (by omega), List.getElem?_eq_none (by rw [packL_len, hL]; omega), List.getElem?_eq_none (by rw [packL_len]; omega)]
/-- One element of a row of words of one's own: read, and written over. -/
theorem Ow.word_at {e : TypeId} {X : Nat → Prop} {w : World} {v : Value} {l : List UInt64} (h : Ow rWord e X w v l) {i : Nat} {x : UInt64} (hx : l[i]? = some x) : ∃ g off c, v = .slice (some ⟨g, off, none⟩) l.length c ∧ g < w.heap.size ∧ ownB v = some g ∧ w.cell? ⟨g, off + i, none⟩ = some (.int .u64 x.toNat) ∧
    (∀ j, w.frozen? ⟨g, j, none⟩ = false) ∧ ∀ y : UInt64, Ow rWord e X (w.setCell ⟨g, off + i, none⟩ (.int .u64 y.toNat)) v (l.set i y) := by
  obtain ⟨g, off, c, cs, rfl, hg, hb, hR, hc, hf, hs⟩ := h.at hx
  have hn : rWord.n = 1 := rfl
  have hR' : cs = [.int .u64 x.toNat] := hR
  subst hR'
  rw [hn, Nat.mul_one] at hc hs
  refine ⟨g, off, c, rfl, hg, hb, hc 0 _ rfl, hf, fun y => ?_⟩
  exact hs flat_word y [.int .u64 y.toNat] rfl
theorem needW_len (l : List UInt8) : needW l.length = (packL l).length := by
  rw [packL_len]; unfold needW
  split
  · omega
  · omega
def pwN (x : UInt8) (k : Nat) : Nat := x.toNat * 256 ^ k
theorem pwN_zero (x : UInt8) : pwN x 0 = x.toNat := by simp [pwN]
theorem pwN_next (x : UInt8) (k : Nat) : pwN x (k + 1) = pwN x k * 256 := by unfold pwN; rw [Nat.pow_succ, Nat.mul_assoc]
theorem pwN_lt (x : UInt8) {k : Nat} (h : k ≤ 7) : pwN x k < 2 ^ 64 := by
  have h1 : 256 ^ k ≤ 256 ^ 7 := Nat.pow_le_pow_right (by decide) h
  have hx8 := x.toNat_lt
  unfold pwN
  calc x.toNat * 256 ^ k < 256 * 256 ^ k := Nat.mul_lt_mul_of_pos_right hx8 (Nat.pow_pos (by decide))
    _ ≤ 256 * 256 ^ 7 := Nat.mul_le_mul_left _ h1
    _ ≤ 2 ^ 64 := by decide
@[go_sem] def hPk : Rx.Hints := { loops := [(3, ⟨[3, 10], [8, 9]⟩), (9, ⟨[6, 7], [3, 4, 8, 9, 10]⟩)], joins := [(5, ⟨[3], [4, 5, 8, 9, 10]⟩)] }
theorem ref_Pack (X : Nat → Prop) (v : Value) (l : List UInt8) (w : World) (h : Sl rByte X w v l) (hl : l.length ≤ 2 ^ 40) :
    Calls Tryz.prog 102 #[v] w fun r w' => ∃ u, r = .returned u ∧ Ow rWord 66 (fun _ => True) w' u (packL l) ∧ Keep w w' ∧ ∀ g, ownB u = some g → w.heap.size ≤ g := by
  obtain ⟨a, c, rfl, -⟩ := id h
  refine calls_rx hPk Tryz.func102 rfl Tryz.mixed (by kernel_rfl) Tryz.results102 ?_
  simp -dsimp [go_sem]
  refine loop_intro (σ := Nat × Value) (fun t => [t.2, .int .i64 t.1]) (fun t w' => t.1 ≤ l.length ∧ Keep w w' ∧ Ow rWord 66 (fun _ => True) w' t.2 (packL (l.take t.1)) ∧ ∀ g, ownB t.2 = some g → w.heap.size ≤ g) (fun t => l.length - t.1) (0, .slice none 0 0) (by simp -dsimp [go_sem]; rfl) (by simp -dsimp [go_sem]) ⟨Nat.zero_le _, Keep.refl w, by simpa [packL] using Ow.nil _ _ _ _, by simp [ownB]⟩ ?_
  rintro ⟨i, u⟩ w1 ⟨hi, k1, o1, b1⟩
  simp only at hi o1 b1
  simp -dsimp [go_sem]
  by_cases g1 : i < l.length
  rotate_left
  · obtain rfl : i = l.length := by omega
    rw [List.take_length] at o1
    simp -dsimp [go_sem, Nat.lt_irrefl]
    exact ⟨o1, k1, b1⟩
  have hx : l[i]? = some l[i] := List.getElem?_eq_getElem _
  generalize l[i] = x at hx
  obtain ⟨b, off, c', e, hb, -, hc⟩ := (h.keep k1).byte hx
  cases e
  have i2 : (i : Int) < l.length := by omega
  have e1 : (i : Int).tmod 8 = (i : Int) % 8 := Int.tmod_eq_emod_of_nonneg (by omega)
  have e2 : (i : Int).tdiv 8 = (i : Int) / 8 := Int.tdiv_eq_ediv_of_nonneg (by omega)
  simp -dsimp [go_sem, g1, i2, hb, hc]
  have hti : (l.take i).length = i := by rw [List.length_take]; omega
  have hpl := packL_len (l.take i)
  rw [hti] at hpl
  refine join_intro (σ := Value × List UInt64) (fun t => [t.1]) (fun t w' => Keep w w' ∧ Ow rWord 66 (fun _ => True) w' t.1 t.2 ∧ (∀ g, ownB t.1 = some g → w.heap.size ≤ g) ∧ t.2 = if i % 8 = 0 then packL (l.take i) ++ [0] else packL (l.take i)) (by simp -dsimp [go_sem]; rfl) ?_ ?_
  · by_cases g3 : i % 8 = 0
    · have g3' : (i : Int) % 8 = 0 := by omega
      simp -dsimp [go_sem, e1, g3']
      generalize hW : w1.alloc _ = w2
      obtain ⟨C2, k2, z2⟩ : w2.heap[w1.heap.size]? = some (.cells #[.int .u64 0] 66 (0, 0)) ∧ Keep w1 w2 ∧ w2.heap.size = w1.heap.size + 1 := by rw [← hW]; exact ⟨heap_alloc_new w1 _, keep_alloc w1 _, by simp⟩
      clear hW
      refine app_flat 8 flat_word Tryz.underlying62 (by kernel_rfl) one_word (o1.keep k2) (Sl.of_blk (X := fun _ => False) (l := [(0 : UInt64)]) C2 id (Cs.one rfl) rfl (by show 1 ≤ maxLen; unfold maxLen; omega)) (by rw [hpl]; show _ + 1 ≤ maxLen; unfold maxLen; omega) (by rw [hpl]; show (_ + 1) * 8 ≤ _; omega) ?_
      intro v' w3 o3 s3 b3
      simp -dsimp [go_sem]
      have l1 := k1.size
      exact meet_intro (v', packL (l.take i) ++ [0]) (by simp -dsimp [go_sem]) (by simp -dsimp [go_sem]) ⟨Step.keep (Keep.trans k1 k2) s3 (fun j q => b1 j q), o3, fun g hg => by rcases b3 g hg with q | q; exact b1 g q; omega, by rw [if_pos g3]⟩
    · have g3' : ¬ (i : Int) % 8 = 0 := by omega
      simp -dsimp [go_sem, e1, g3']
      exact meet_intro (u, packL (l.take i)) (by simp -dsimp [go_sem]) (by simp -dsimp [go_sem]) ⟨k1, o1, b1, by rw [if_neg g3]⟩
  rintro ⟨u', o'⟩ w2 ⟨k2, o2, b2, ho⟩
  simp only at o2 b2 ho
  simp -dsimp [go_sem]
  have hx8 := x.toNat_lt
  have ex : IntKind.u64.wrap (x.toNat : Int) = x.toNat := IntWalk.u64_in _ (by omega)
  rw [ex]
  refine loop_intro (σ := Nat) (fun k => [.int .u64 (pwN x k : Int), .int .i64 k]) (fun k w' => k ≤ i % 8 ∧ w2 = w') (fun k => i % 8 - k) 0 (by simp -dsimp [go_sem]; rfl) (by simp -dsimp [go_sem, pwN_zero]) ⟨Nat.zero_le _, rfl⟩ ?_
  rintro k w3 ⟨hk, rfl⟩
  have hpk := pwN_lt x (k := k) (by omega)
  by_cases g4 : k < i % 8
  · have g4' : (k : Int) < (i : Int) % 8 := by omega
    have hp2 := pwN_lt x (k := k + 1) (by omega)
    have ew : IntKind.u64.wrap ((pwN x k : Int) * 256) = (pwN x (k + 1) : Int) := by rw [pwN_next] at hp2 ⊢; rw [IntWalk.u64_in _ (by omega)]; omega
    simp -dsimp [go_sem, e1, g4', ew]
    try simp -dsimp (disch := omega) only [IntWalk.i64_in, IntWalk.u64_in, IntWalk.u8_in]
    exact back_intro (k + 1) (by simp -dsimp [go_sem]) (by simp -dsimp [go_sem]) ⟨by omega, rfl⟩ (by omega)
  have g4' : ¬ (k : Int) < (i : Int) % 8 := by omega
  obtain rfl : k = i % 8 := by omega
  have hchunk : leN (chunkL (l.take (i + 1)) (i / 8)) = leN (chunkL (l.take i) (i / 8)) + pwN x (i % 8) := by
    have hl1 : l.take (i + 1) = l.take i ++ [x] := by rw [List.take_add_one, hx]; rfl
    have := chunk_last (l.take i) x
    rw [hti] at this
    rw [hl1, this, leN_app]
    have h2 := chunk_part (l.take i)
    rw [hti] at h2
    rw [h2, List.length_drop, hti]
    unfold pwN
    congr 3; omega
  have hcl : leN (chunkL (l.take i) (i / 8)) + pwN x (i % 8) < 18446744073709551616 := by rw [← hchunk]; exact chunk_lt (l.take (i + 1)) (i / 8)
  have hy : o'[i / 8]? = some (UInt64.ofNat (leN (chunkL (l.take i) (i / 8)))) := by
    rw [ho]
    split
    · rename_i g
      rw [List.getElem?_append_right (by omega), hpl, show i / 8 - (i + 7) / 8 = 0 from by omega]
      have h2 := chunk_part (l.take i)
      rw [hti] at h2
      rw [h2, List.drop_eq_nil_of_le (by omega)]; rfl
    · exact packL_at (by omega)
  have hset : o'.set (i / 8) (UInt64.ofNat (leN (chunkL (l.take i) (i / 8)) + pwN x (i % 8))) = packL (l.take (i + 1)) := by
    have hl1 : l.take (i + 1) = l.take i ++ [x] := by rw [List.take_add_one, hx]; rfl
    rw [hl1, pack_next, hti, ho]
    split
    · rename_i g
      have h2 := chunk_part (l.take i)
      rw [hti] at h2
      rw [h2, List.drop_eq_nil_of_le (by omega), g, pwN_zero, List.set_append_right _ _ (by omega), hpl, show i / 8 - (i + 7) / 8 = 0 from by omega]
      simp [leN]
    · rfl
  obtain ⟨gb, off6, c6', e6, hgl6, hgo6, hgc6, hgf6, hw6⟩ := o2.word_at hy
  subst e6
  have hol := (List.getElem?_eq_some_iff.1 hy).1
  have hol2 : (i : Int) / 8 < o'.length := by omega
  have hi8 : ((i : Int) / 8).toNat = i / 8 := by omega
  have hi9 : 0 ≤ (i : Int) / 8 := by omega
  have ew8 : IntKind.i64.wrap ((i : Int) / 8) = (i : Int) / 8 := IntWalk.i64_in _ (by omega)
  have ey : IntKind.u64.wrap (((leN (chunkL (l.take i) (i / 8)) : Nat) : Int) % 18446744073709551616 + (pwN x (i % 8) : Int)) = ((UInt64.ofNat (leN (chunkL (l.take i) (i / 8)) + pwN x (i % 8))).toNat : Int) := by
    rw [UInt64.toNat_ofNat']
    generalize leN (chunkL (l.take i) (i / 8)) = A at hcl ⊢
    generalize pwN x (i % 8) = B at hcl ⊢
    rw [Nat.mod_eq_of_lt hcl, IntWalk.u64_in _ (by omega)]
    omega
  simp -dsimp [go_sem, e1, e2, g4', ew8, hol, hol2, hi8, hi9, hgl6, hgc6, hgf6]
  rw [ey]
  try simp -dsimp (disch := omega) only [IntWalk.i64_in, IntWalk.u64_in, IntWalk.u8_in]
  have o3 := hw6 (UInt64.ofNat (leN (chunkL (l.take i) (i / 8)) + pwN x (i % 8)))
  rw [hset] at o3
  exact back_intro (i + 1, .slice (some ⟨gb, off6, none⟩) o'.length c6') (by simp -dsimp [go_sem]) (by simp -dsimp [go_sem]) ⟨by show i + 1 ≤ _; omega, Step.keep k2 ((Step.refl (fun k => k = gb) w2).set (p := ⟨gb, off6 + i / 8, none⟩) (.inl rfl) _) (fun j q => by subst q; exact b2 _ hgo6), o3, b2⟩ (by show l.length - (i + 1) < l.length - i; omega)
/-- '[]byte(s)'. -/
theorem conv_bytes (src : TypeId) (hs : Tryz.prog.underlying src = some .string) (s : ByteArray) (w : World) (hl : s.size ≤ 2 ^ 40) : ∃ a c w', (convert src 23 (.string s)).run Tryz.prog w = .ok (.slice a s.data.toList.length c) w' ∧ Sl rByte (fun _ => False) w' (.slice a s.data.toList.length c) s.data.toList ∧ Keep w w' := by
  have h := run_bytes_of_string (P := Tryz.prog) w src 23 5 s hs Tryz.underlying23 Tryz.underlying5
  have hbl := heap_alloc_new w.drew (.cells (bytesRow s (grownCap w s.size 0 5)) 5 ((bytesRow s (grownCap w s.size 0 5)).size, (bytesRow s (grownCap w s.size 0 5)).size + 1))
  have hsz : s.data.toList.length = s.size := by simp
  refine ⟨_, _, _, h, ⟨_, _, rfl, by rw [hsz]; exact grownCap_ge w s.size 0 _, grownCap_le_maxLen w s.size 0 _ (Nat.le_trans hl (by decide)), fun _ => ⟨_, 0, rfl, blk_lt hbl, id, fun i x hx => ⟨[.int .u8 x.toNat], rfl, fun j u hu => ?_⟩⟩⟩, ?_⟩
  · have hi := (List.getElem?_eq_some_iff.1 hx).1
    have hj : j = 0 := by have := (List.getElem?_eq_some_iff.1 hu).1; simpa using this
    subst hj
    simp only [List.getElem?_cons_zero, Option.some.injEq] at hu
    subst hu
    rw [show (⟨w.heap.size, 0 + i * rByte.n + 0, none⟩ : Addr) = ⟨w.drew.heap.size, i, none⟩ from by rw [show rByte.n = 1 from rfl, Nat.mul_one, Nat.zero_add]; rfl]
    rw [cell_of_row _ _ _ _ _ _ hbl]
    unfold bytesRow
    rw [hsz] at hi
    rw [Array.getElem?_append_left (by simpa using hi), Array.getElem?_map]
    rw [← Array.getElem?_toList, hx]; rfl
  · exact Keep.trans (keep_drew w) (keep_alloc _ _)
theorem ref_Text (s : ByteArray) (hl : s.size ≤ 2 ^ 40) (w : World) :
    Calls Tryz.prog 64 #[.string s] w fun r w' => ∃ u, r = .returned u ∧ Ow rWord 66 (fun _ => True) w' u (UInt64.ofNat s.size :: packL s.data.toList) ∧ Keep w w' ∧ ∀ g, ownB u = some g → w.heap.size ≤ g := by
  refine calls_rx h64 Tryz.func64 rfl Tryz.mixed (by kernel_rfl) Tryz.results64 ?_
  simp -dsimp [go_sem]
  generalize hW : w.alloc _ = W
  obtain ⟨C0, k0, z0⟩ : W.heap[w.heap.size]? = some (.cells #[.int .u64 (IntKind.u64.wrap s.size)] 66 (0, 0)) ∧ Keep w W ∧ W.heap.size = w.heap.size + 1 := by rw [← hW]; exact ⟨heap_alloc_new w _, keep_alloc w _, by simp⟩
  clear hW
  obtain ⟨ba, bc, W1, hcv, hsl, k1⟩ := conv_bytes 9 Tryz.underlying9 s W hl
  rw [hcv]
  simp -dsimp [go_sem]
  refine (ref_Pack _ _ _ W1 hsl (by simpa using hl)).mono ?_; rintro _ w2 ⟨u, rfl, o2, k2, b2⟩; refine ret_intro ?_
  obtain ⟨ua, uc, rfl, -⟩ := o2.slice
  simp -dsimp [go_sem]
  have k12 := Keep.trans k1 k2
  have C2 := k12.blk C0 (fun q => q)
  rw [show IntKind.u64.wrap (s.size : Int) = ((UInt64.ofNat s.size).toNat : Int) from by
    have : s.size < 18446744073709551616 := by omega
    rw [UInt64.toNat_ofNat', Nat.mod_eq_of_lt this]; exact IntWalk.u64_in _ (by omega)] at C2
  have o0 : Ow rWord 66 (fun _ => True) w2 (.slice (some ⟨w.heap.size, 0, none⟩) 1 1) [UInt64.ofNat s.size] :=
    .inr ⟨[.int .u64 (UInt64.ofNat s.size).toNat], ⟨rfl, .inr ⟨w.heap.size, 0, 1, _, rfl, C2, Nat.le_refl _, by decide, by show 0 + 1 * 1 ≤ 1; omega, rfl⟩⟩, Cs.one rfl⟩
  have hlen : (packL s.data.toList).length ≤ 2 ^ 40 := by rw [packL_len]; simp; omega
  have l1 := k1.size
  refine app_flat 8 flat_word Tryz.underlying62 (by kernel_rfl) one_word o0 ((o2.all flat_word (Y := fun _ => False)).sl (fun j hj q => q)) (by rw [List.length_singleton]; unfold maxLen; omega) (by rw [List.length_singleton]; omega) ?_
  intro v' w3 o3 s3 b3
  obtain ⟨va, vc, rfl, -⟩ := o3.slice
  simp -dsimp [go_sem]
  refine ⟨o3, Step.keep (Keep.trans k0 k12) s3 (fun j q => ?_), fun g hg => ?_⟩
  · simp [ownB] at q; omega
  · rcases b3 g hg with q | q
    · simp [ownB] at q; omega
    · have := (Keep.trans k0 k12).size; omega
theorem ref_WordsOf (X : Nat → Prop) (n : Node) (cs : List Value) (w : World) (h : rNode.R X w n cs) (hp : n.pages.length ≤ 2 ^ 20) (hn : n.names.length ≤ 2 ^ 20) (hb : ∀ x ∈ n.names, x.name.size ≤ 2 ^ 20) :
    Calls Tryz.prog 41 #[.agg cs.toArray] w fun e w' => e = .returned (.int .i64 (wordsN n)) ∧ Keep w w' := by
  have hh := h
  obtain ⟨d1, d2, rfl, h1, h2, hok⟩ := h
  obtain ⟨a1, c1, rfl, -⟩ := id h1
  obtain ⟨a2, c2, rfl, -⟩ := id h2
  refine calls_rx h41 Tryz.func41 rfl Tryz.mixed (by kernel_rfl) Tryz.results41 ?_
  unfold Node.enc
  simp -dsimp [go_sem]
  have e0 : IntKind.i64.wrap (7 + (n.pages.length : Int)) = 7 + n.pages.length := IntWalk.i64_in _ (by omega)
  generalize hW : w.alloc _ = W
  have k0 : Keep w W := by rw [← hW]; exact keep_alloc w _
  refine loop_intro (σ := Nat) (fun i => [.int .i64 (7 + n.pages.length + sumW (n.names.take i)), .int .i64 i]) (fun i w' => i ≤ n.names.length ∧ Keep w w') (fun i => n.names.length - i) 0 (by simp -dsimp [go_sem]; rfl) (by simp -dsimp [go_sem, e0, sumW]) ⟨by simp, k0⟩ ?_
  rintro i w1 ⟨hi, k1⟩
  have hsum := sumW_le (n.names.take i) (fun x hx => hb x (List.mem_of_mem_take hx))
  have hlt : ((n.names.take i).length : Int) ≤ 2 ^ 20 := by simp; omega
  generalize hS : sumW (n.names.take i) = S at hsum ⊢
  simp -dsimp [go_sem]
  refine condF_intro (fun g1 => ?_) (fun g1 => ?_)
  · simp at g1
    have hx : n.names[i]? = some n.names[i] := List.getElem?_eq_getElem _
    generalize n.names[i] = x at hx
    obtain ⟨b, off, c', e, hbl, -, hxo, hc0, hc1⟩ := (h2.keep k1).entry hx
    cases e
    have i2 : (i : Int) < n.names.length := by omega
    have hxs := hb x (List.mem_of_getElem? hx)
    simp -dsimp [go_sem, i2, hbl, hc0, hc1]
    refine (ref_Text x.name (by omega) _).mono ?_; rintro _ w2 ⟨u, rfl, o2, k2, b2⟩; refine ret_intro ?_
    obtain ⟨ua, uc, rfl, -⟩ := o2.slice
    have hnl := needW_len x.name.data.toList
    rw [show x.name.data.toList.length = x.name.size from by simp] at hnl
    have hcl : (UInt64.ofNat x.name.size :: packL x.name.data.toList).length = (packL x.name.data.toList).length + 1 := List.length_cons
    have h2 := needW_le x.name.size
    rw [hcl]
    generalize (packL x.name.data.toList).length = K at hnl ⊢
    rw [hnl] at h2
    have e1 : IntKind.i64.wrap (1 + ((K + 1 : Nat) : Int)) = 2 + K := by rw [IntWalk.i64_in _ (by omega)]; omega
    have e2 : IntKind.i64.wrap (7 + n.pages.length + S + (2 + (K : Int))) = 7 + n.pages.length + S + (2 + (K : Int)) := IntWalk.i64_in _ (by omega)
    have e3 : sumW (n.names.take (i + 1)) = S + (2 + K) := by rw [List.take_add_one, hx, sumW_append, hS]; simp [sumW, hnl]
    have e1' : IntKind.i64.wrap (1 + ((K : Int) + 1)) = 2 + K := by rw [IntWalk.i64_in _ (by omega)]; omega
    simp -dsimp [go_sem, e1, e1', e2]
    try simp -dsimp (disch := omega) only [IntWalk.i64_in, IntWalk.u64_in, IntWalk.u8_in]
    refine back_intro (i + 1) (by simp -dsimp [go_sem, e1, e1', e2, e3]; omega) (by simp -dsimp [go_sem]) ⟨by omega, Keep.trans (k1.alloc _) k2⟩ (by omega)
  · simp at g1
    obtain rfl : i = n.names.length := by omega
    rw [List.take_length] at hS
    unfold wordsN
    simp -dsimp [go_sem, hS]
    exact k1
end Go.Proofs.YtdfjfagljngciaaGreat
