/- Package words: words are written. -/
import Derived.Test.YtdfjfagljngciaaGreatPk
import Derived.Test.YtdfjfagljngciaaGreatSta
import Derived.Lib.EndianBits
import Derived.Laws.Bits64
import Derived.Laws.OwnMore
set_option linter.all false
set_option maxRecDepth 100000
set_option maxHeartbeats 4000000
namespace Go.Proofs.YtdfjfagljngciaaGreat
open Go.RowKit Rx

def u64I (n : Int) : UInt64 := UInt64.ofNat (n % 18446744073709551616).toNat
theorem Ow.ne_box1 {α : Type} {r : Rep α} {X : Nat → Prop} {w : World} {v : Value} {l : List α} (h : Ow r 66 X w v l) {k : Nat} {cs : Array Value} (hb : w.heap[k]? = some (.cells cs 92 (0, 0))) {g : Nat} (hg : ownB v = some g) : g ≠ k := by
  rintro rfl
  rcases h.split with ⟨a, rfl, rfl, hn⟩ | ⟨xs, h1, h2, hn⟩
  · rw [hn] at hg; cases hg
  · rw [hn] at hg
    rcases h1.2 with ⟨rfl, -⟩ | ⟨g', off, cap, cur, rfl, hc, -⟩
    · cases hg
    · simp [Value.ownBlock] at hg
      subst hg
      rw [hc] at hb
      simp at hb
theorem u64I_nat (n : Nat) (h : n < 2 ^ 63) : u64I n = UInt64.ofNat n := by
  unfold u64I; congr 1; omega
theorem u64I_wrap (n : Int) : IntKind.u64.wrap n = ((u64I n).toNat : Int) := by
  unfold u64I
  rw [UInt64.toNat_ofNat', Nat.mod_eq_of_lt (by omega)]
  simp [IntKind.wrap, IntKind.signed, IntKind.bits, IntKind.min, IntKind.max]
  omega
theorem u64I_inj {a b : Int} (ha : I64 a) (hb : I64 b) (h : u64I a = u64I b) : a = b := by
  obtain ⟨a1, a2⟩ := ha
  obtain ⟨b1, b2⟩ := hb
  have := congrArg UInt64.toNat h
  unfold u64I at this
  rw [UInt64.toNat_ofNat', UInt64.toNat_ofNat', Nat.mod_eq_of_lt (by omega), Nat.mod_eq_of_lt (by omega)] at this
  omega
/-- A writer's block, and what was written. -/
structure WAt (w : World) (b : Nat) (v : Value) (l : List UInt64) : Prop where
  hb : w.heap[b]? = some (.cells #[v] 92 (0, 0))
  ho : Ow rWord 66 (fun _ => True) w v l
theorem WAt.step {O : Nat → Prop} {w w' : World} {b : Nat} {v : Value} {l : List UInt64} (h : WAt w b v l) (hs : Step O w w') (hb : ¬ O b) (hv : ∀ g, ownB v = some g → ¬ O g) : WAt w' b v l :=
  ⟨hs.blk h.hb hb, h.ho.flat flat_word hs hv⟩
theorem WAt.keep {w w' : World} {b : Nat} {v : Value} {l : List UInt64} (h : WAt w b v l) (hs : Keep w w') : WAt w' b v l := h.step hs id (fun _ _ q => q)
/-- What writing comes to. -/
def Wrote (b : Nat) (v : Value) (l : List UInt64) (w : World) (w' : World) : Prop :=
  ∃ v', WAt w' b v' l ∧ Step (fun k => k = b ∨ ownB v = some k) w w' ∧ ∀ g, ownB v' = some g → ownB v = some g ∨ w.heap.size ≤ g
theorem writer_Num (b : Nat) (v : Value) (l : List UInt64) (n : Int) (hl : l.length ≤ 2 ^ 40) (w : World) (h : WAt w b v l) :
    Calls Tryz.prog 49 #[.pointer (some ⟨b, 0, none⟩), .int .i64 n] w fun r w' => (∃ u, r = .returned u) ∧ Wrote b v (l ++ [u64I n]) w w' := by
  have H0 := h.hb
  have hne : ∀ g, ownB v = some g → g ≠ b := fun g q => h.ho.ne_box1 H0 q
  have hvl : ∀ g, ownB v = some g → g < w.heap.size := fun g q => h.ho.lt q
  obtain ⟨va, vc, rfl, -⟩ := h.ho.slice
  refine calls_rx h49 Tryz.func49 rfl Tryz.mixed (by kernel_rfl) Tryz.results49 ?_
  have H0c := blk_cell H0; have H0f := blk_free H0; have H0l := blk_lt H0
  simp -dsimp [go_sem, H0c, H0f, H0l]
  generalize hW : w.alloc _ = w1
  obtain ⟨C1, k1, z1⟩ := alloc1 hW
  clear hW
  rw [u64I_wrap] at C1
  generalize hvv : Value.slice va l.length vc = v at *
  refine app_flat 8 flat_word Tryz.underlying62 (by kernel_rfl) one_word (h.ho.keep k1) (Sl.of_blk (X := fun _ => False) (l := [u64I n]) C1 id (Cs.one rfl) rfl (by show 1 ≤ maxLen; unfold maxLen; omega)) (by rw [List.length_singleton]; unfold maxLen; omega) (by rw [List.length_singleton]; omega) ?_
  intro v' w2 o2 s2 b2
  have H2 := s2.blk (k1.blk H0 (fun q => q)) (fun q => hne _ q rfl)
  obtain ⟨va', vc', rfl, -⟩ := o2.slice
  generalize (l ++ [u64I n]).length = nn at *
  clear H0c H0f H0l
  have H2c := blk_cell H2; have H2f := blk_free H2; have H2l := blk_lt H2
  simp -dsimp [go_sem, H2c, H2f, H2l]
  have sW : Step (fun k => k = b) w2 (w2.setCell ⟨b, 0, none⟩ (.slice va' nn vc')) := (Step.refl (fun k => k = b) w2).set (.inl rfl) _
  have hne2 : ∀ g, ownB (.slice va' nn vc') = some g → g ≠ b := fun g q => by
    rcases b2 g q with q' | q'
    · exact hne g q'
    · have := blk_lt H0; omega
  refine ⟨.slice va' nn vc', ⟨blk_eq (blk_set H2 0 _) (by first | rfl | simp), o2.flat flat_word sW (fun g q => hne2 g q)⟩, ((Step.trans (O := fun k => k = b ∨ ownB v = some k) (Keep.any k1) s2 (fun j _ q => .inr q))).trans sW (fun j _ q => .inl q), fun g q => ?_⟩
  rcases b2 g q with q' | q'
  · exact .inl q'
  · right; omega
theorem mk_words (n : Nat) (hn : n ≤ 2 ^ 40) (w : World) : ∃ w', (Instr.makeSlice 62 (.int .i64 n) (.int .i64 n)).run Tryz.prog w = .ok (.slice (some ⟨w.heap.size, 0, none⟩) n n) w' ∧ Ow rWord 66 (fun _ => True) w' (.slice (some ⟨w.heap.size, 0, none⟩) n n) (List.replicate n 0) ∧ Keep w w' := by
  obtain ⟨inf, hi, hz, hs, hb⟩ : ∃ inf, Tryz.prog.info? 66 = some inf ∧ inf.zero = some (.int .u64 0) ∧ inf.size = 1 ∧ inf.bytes = 8 := ⟨_, rfl, by kernel_rfl, by kernel_rfl, by kernel_rfl⟩
  obtain ⟨w', h1, h2, h3⟩ := run_make_full (P := Tryz.prog) w w.heap.size 62 66 inf (.int .u64 0) 1 Tryz.underlying62 hi hz hs .i64 .i64 n (by rw [hb]; omega) (by unfold maxLen; omega) (Nat.le_refl _)
  have hm : (madeCells (Value.int IntKind.u64 0).cells (n * 1)).toList = List.replicate n (Value.int .u64 0) := by
    unfold madeCells
    rw [Nat.mul_one]
    apply List.ext_getElem?
    intro j
    simp only [Array.toList_map, List.getElem?_map, Array.toList_range, List.getElem?_replicate]
    by_cases hj : j < n
    · rw [List.getElem?_range hj, if_pos hj]
      simp [Value.cells, Nat.mod_one]
    · rw [List.getElem?_eq_none (by simp; omega), if_neg hj]; rfl
  rw [hm] at h2
  have hc : Cs rWord (fun _ => True) w' (List.replicate n 0) (List.replicate n (Value.int .u64 0)) := by
    clear h1 h2 hm hn
    induction n with
    | zero => exact Cs.nil
    | succ n ih => rw [List.replicate_succ, List.replicate_succ]; exact Cs.cons (cs := [.int .u64 0]) rfl ih
  exact ⟨w', h1, .inr ⟨_, by rw [List.length_replicate]; exact .of_row h2, hc⟩, (Step.refl _ w).grown h3 (fun k hk => by cases hk)⟩
theorem index_int {t : TypeId} {len : Nat} (hu : Tryz.prog.underlying t = some (.array len 3)) (cs : Array Value) (i : Nat) (hi : i < len) (x : Int) (hx : cs[i]? = some (.int .i64 x)) (w : World) : (Instr.index t (.agg cs) (.int .i64 i)).run Tryz.prog w = .ok (.int .i64 x) w := by
  have hsz : (sizeOf 3).run Tryz.prog w = .ok 1 w := by
    obtain ⟨inf, hi, hs⟩ : ∃ inf, Tryz.prog.info? 3 = some inf ∧ inf.size = 1 := ⟨_, rfl, by kernel_rfl⟩
    simp [sizeOf, typeInfo, hi, hs]
  have ha : (isAgg 3).run Tryz.prog w = .ok false w := by simp [isAgg, run_underlying Tryz.underlying3]
  simp [Instr.index, asIntOf, Sem.run_bind, run_underlying hu, hsz, part, ha, hi, hx]
theorem shl_run (x : UInt8) (r : Nat) (hr : r ≤ 7) (w : World) : (Op.shift .shl .u64 (x.toNat : Int) .i64 (8 * (r : Int))).run Tryz.prog w = .ok (.int .u64 (pwN x r : Int)) w := by
  have h1 : ¬ (8 * (r : Int)) < 0 := by omega
  have h2 : (8 * (r : Int)).toNat = 8 * r := by omega
  have h3 : min (8 * r) 64 = 8 * r := by omega
  have h4 : (x.toNat : Int) * 2 ^ (8 * r) = (pwN x r : Int) := by
    unfold pwN
    rw [show (256 : Nat) = 2 ^ 8 from rfl, ← Nat.pow_mul]
    simp
  have h5 := pwN_lt x hr
  have h6 : IntKind.u64.wrap (pwN x r : Int) = (pwN x r : Int) := IntWalk.u64_in _ (by omega)
  simp [Op.shift, h1, h2, show IntKind.u64.bits = 64 from rfl, h3, h4, h6]
theorem or_run {A r : Nat} (x : UInt8) (hr : r ≤ 7) (hA : A < 256 ^ r) : bits .or .u64 (A : Int) (pwN x r : Int) = ((A + pwN x r : Nat) : Int) := by
  have h5 := pwN_lt x hr
  have h6 : (256 : Nat) ^ r = 2 ^ (8 * r) := by rw [show (256 : Nat) = 2 ^ 8 from rfl, ← Nat.pow_mul]
  have h7 : 2 ^ (8 * r) ≤ 2 ^ 56 := Nat.pow_le_pow_right (by decide) (by omega)
  rw [h6] at hA
  have h8 : ((2 : Int) ^ (8 * r)) = ((2 ^ (8 * r) : Nat) : Int) := by simp
  have h9 : pwN x r % 2 ^ (8 * r) = 0 := by unfold pwN; rw [h6]; exact Nat.mul_mod_left _ _
  rw [bits_join_low .u64 64 (by decide) wraps_u64 (8 * r) (A : Int) (pwN x r : Int) (by omega) (by rw [h8]; omega) (by omega) (by omega) (by rw [h8]; omega) (by omega)]
  omega
theorem words_Pack (X : Nat → Prop) (v : Value) (l : List UInt8) (w : World) (h : Sl rByte X w v l) (hl : l.length ≤ 2 ^ 40) :
    Calls Tryz.prog 119 #[v] w fun r w' => ∃ u, r = .returned u ∧ Ow rWord 66 (fun _ => True) w' u (packL l) ∧ Keep w w' ∧ ∀ g, ownB u = some g → w.heap.size ≤ g := by
  obtain ⟨a, c, rfl, -⟩ := id h
  refine calls_rx h119 Tryz.func119 rfl Tryz.mixed (by kernel_rfl) Tryz.results119 ?_
  simp -dsimp [go_sem]
  refine (words_Need l.length (by omega) w).mono ?_; rintro _ w1 ⟨rfl, rfl⟩; refine ret_intro ?_
  rw [needW_len]
  have hK := packL_len l
  generalize hKK : (packL l).length = K at hK
  obtain ⟨w1, hm, o1, k1⟩ := mk_words K (by omega) w
  simp -dsimp [go_sem, hm]
  generalize hvv : Value.slice (some ⟨w.heap.size, 0, none⟩) K K = u at *
  refine loop_intro (σ := Nat) (fun i => [.int .i64 i]) (fun i w' => i ≤ l.length ∧ Keep w w' ∧ ∃ o, Ow rWord 66 (fun _ => True) w' u o ∧ o.length = K ∧ ∀ j < K, o[j]? = some (UInt64.ofNat (leN (chunkL (l.take i) j)))) (fun i => l.length - i) 0 (by simp -dsimp [go_sem]; rfl) (by simp -dsimp [go_sem]) ⟨Nat.zero_le _, k1, _, o1, by simp, fun j hj => ?_⟩ ?_
  · simp [chunkL, leN, hj]
  rintro i w2 ⟨hi, k2, o, o2, ho, hat⟩
  simp -dsimp [go_sem]
  by_cases g1 : i < l.length
  rotate_left
  · obtain rfl : i = l.length := by omega
    rw [List.take_length] at hat
    have : o = packL l := by
      apply List.ext_getElem?
      intro j
      by_cases hj : j < K
      · rw [hat j hj, packL_at (by omega)]
      · rw [List.getElem?_eq_none (by omega), List.getElem?_eq_none (by omega)]
    rw [this] at o2
    simp -dsimp [go_sem, Nat.lt_irrefl]
    refine ⟨o2, k2, fun g hg => ?_⟩
    subst hvv
    simp [ownB] at hg; omega
  have hx : l[i]? = some l[i] := List.getElem?_eq_getElem _
  generalize l[i] = x at hx
  obtain ⟨b, off, c', e, hb, -, hc⟩ := (h.keep k2).byte hx
  cases e
  have i2 : (i : Int) < l.length := by omega
  have e2 : (i : Int).tdiv 8 = (i : Int) / 8 := Int.tdiv_eq_ediv_of_nonneg (by omega)
  have e1 : (i : Int).tmod 8 = (i : Int) % 8 := Int.tmod_eq_emod_of_nonneg (by omega)
  have ew8 : IntKind.i64.wrap ((i : Int) / 8) = (i : Int) / 8 := IntWalk.i64_in _ (by omega)
  subst hvv
  have hj8 : i / 8 < K := by omega
  obtain ⟨gb, off6, c6', e6, hgl6, hgo6, hgc6, hgf6, hw6⟩ := o2.word_at (hat (i / 8) hj8)
  simp only [Value.slice.injEq, Option.some.injEq, Addr.mk.injEq, and_true] at e6
  obtain ⟨⟨rfl, rfl⟩, -, rfl⟩ := e6
  rw [Nat.zero_add] at hgc6
  simp only [Nat.zero_add] at hw6
  have hol2 : (i : Int) / 8 < (K : Int) := by omega
  have hi8 : ((i : Int) / 8).toNat = i / 8 := by omega
  have hi9 : 0 ≤ (i : Int) / 8 := by omega
  have hx8 := x.toNat_lt
  have ex : IntKind.u64.wrap (x.toNat : Int) = x.toNat := IntWalk.u64_in _ (by omega)
  have es8 : IntKind.i64.wrap (8 * ((i : Int) % 8)) = 8 * ((i : Int) % 8) := IntWalk.i64_in _ (by omega)
  have hsh : ∀ w, (Op.shift .shl .u64 (x.toNat : Int) .i64 (8 * ((i : Int) % 8))).run Tryz.prog w = .ok (.int .u64 (pwN x (i % 8) : Int)) w := by
    intro w
    have := shl_run x (i % 8) (by omega) w
    rwa [show ((i % 8 : Nat) : Int) = (i : Int) % 8 from by omega] at this
  have hcl := chunk_lt (l.take i) (i / 8)
  have hcl2 : leN (chunkL (l.take i) (i / 8)) < 256 ^ (i % 8) := by
    have h1 := leN_lt (chunkL (l.take i) (i / 8))
    have h2 := chunk_part (l.take i)
    rw [List.length_take, Nat.min_eq_left hi] at h2
    rw [h2, List.length_drop, List.length_take, Nat.min_eq_left hi, show i - 8 * (i / 8) = i % 8 from by omega] at h1
    rw [h2]; exact h1
  have hor := or_run x (r := i % 8) (by omega) hcl2
  have hchunk : leN (chunkL (l.take (i + 1)) (i / 8)) = leN (chunkL (l.take i) (i / 8)) + pwN x (i % 8) := by
    have hl1 : l.take (i + 1) = l.take i ++ [x] := by rw [List.take_add_one, hx]; rfl
    have h0 := chunk_last (l.take i) x
    rw [List.length_take, Nat.min_eq_left hi] at h0
    rw [hl1, h0, leN_app]
    have h2 := chunk_part (l.take i)
    rw [List.length_take, Nat.min_eq_left hi] at h2
    rw [h2, List.length_drop, List.length_take, Nat.min_eq_left hi]
    unfold pwN
    congr 3; omega
  have hcl3 := chunk_lt (l.take (i + 1)) (i / 8)
  rw [hchunk] at hcl3
  generalize hA : leN (chunkL (l.take i) (i / 8)) = A at *
  have hAm : (A : Int) % 18446744073709551616 = A := by omega
  have hB : ((UInt64.ofNat (A + pwN x (i % 8))).toNat : Int) = ((A + pwN x (i % 8) : Nat) : Int) := by
    rw [UInt64.toNat_ofNat', Nat.mod_eq_of_lt hcl3]
  have o3 := hw6 (UInt64.ofNat (A + pwN x (i % 8)))
  rw [hB] at o3
  simp -dsimp [go_sem, g1, i2, hb, hc, e1, e2, ew8, hol2, hi8, hi9, hgl6, hgc6, hgf6, hj8, ex, es8, hsh, hAm]
  have hwp : IntKind.u64.wrap ((x.toNat : Int) * 2 ^ (8 * ((i : Int) % 8)).toNat) = (pwN x (i % 8) : Int) := by
    have h2 : (8 * ((i : Int) % 8)).toNat = 8 * (i % 8) := by omega
    have h4 : (x.toNat : Int) * 2 ^ (8 * (i % 8)) = (pwN x (i % 8) : Int) := by
      unfold pwN
      rw [show (256 : Nat) = 2 ^ 8 from rfl, ← Nat.pow_mul]
      simp
    rw [h2, h4]
    exact IntWalk.u64_in _ (by omega)
  rw [hwp, hor]
  try simp -dsimp (disch := omega) only [IntWalk.i64_in, IntWalk.u64_in, IntWalk.u8_in]
  refine back_intro (i + 1) (by simp -dsimp [go_sem]) (by simp -dsimp [go_sem]) ⟨by omega, Step.keep k2 (show Step (fun k => k = w.heap.size) _ _ from Step.drew ((Step.refl (fun k => k = w.heap.size) w2).set (p := ⟨w.heap.size, i / 8, none⟩) (.inl rfl) _)) (fun j q => by omega), _, o3.keep (keep_drew _), by rw [List.length_set]; exact ho, fun j hj => ?_⟩ (by omega)
  rw [List.getElem?_set]
  by_cases hji : i / 8 = j
  · subst hji
    rw [if_pos rfl, if_pos (by omega), hchunk]
  · rw [if_neg hji, hat j hj]
    congr 3
    have hl1 : l.take (i + 1) = l.take i ++ [x] := by rw [List.take_add_one, hx]; rfl
    rcases Nat.lt_or_gt_of_ne hji with g | g
    · unfold chunkL
      rw [List.drop_eq_nil_of_le (by rw [List.length_take]; omega), List.drop_eq_nil_of_le (by rw [List.length_take]; omega)]
    · rw [hl1, chunk_app (by rw [List.length_take]; omega)]
def moreW (s x : UInt64) : UInt64 := (s ^^^ x) * 1099511628211
def sumL (l : List UInt64) : UInt64 := l.foldl moreW 14695981039346656037
theorem check_More (s x : UInt64) (w : World) : Calls Tryz.prog 122 #[.int .u64 s.toNat, .int .u64 x.toNat] w fun r w' => r = .returned (.int .u64 (moreW s x).toNat) ∧ w = w' := by
  refine calls_rx h122 Tryz.func122 rfl Tryz.mixed (by kernel_rfl) Tryz.results122 ?_
  simp -dsimp [go_sem]
  rw [bits_xor_u64_nat _ _ s.toNat_lt x.toNat_lt, IntKind.wrap_u64]
  unfold moreW
  rw [UInt64.toNat_mul, UInt64.toNat_xor]
  show (_ : Int) % 18446744073709551616 = ((_ * 1099511628211 % 2 ^ 64 : Nat) : Int)
  omega
theorem Wrote.then {b : Nat} {v v2 : Value} {l : List UInt64} {w w2 w3 : World} (s2 : Step (fun k => k = b ∨ ownB v = some k) w w2) (b2 : ∀ g, ownB v2 = some g → ownB v = some g ∨ w.heap.size ≤ g) (h3 : Wrote b v2 l w2 w3) : Wrote b v l w w3 := by
  obtain ⟨v3, W3, s3, b3⟩ := h3
  have l2 := s2.size
  refine ⟨v3, W3, s2.trans s3 (fun j hj q => ?_), fun g q => ?_⟩
  · rcases q with q | q
    · exact .inl q
    · exact .inr ((b2 j q).resolve_right (by omega))
  · rcases b3 g q with q' | q'
    · exact b2 g q'
    · right; omega
theorem Wrote.refl {b : Nat} {v : Value} {l : List UInt64} {w : World} (h : WAt w b v l) : Wrote b v l w w := ⟨v, h, Step.refl _ _, fun _ q => .inl q⟩
def nameW (x : Entry) : List UInt64 := UInt64.ofNat x.name.size :: packL x.name.data.toList ++ [u64I x.ino]
def headN (n : Node) : List Int := [n.ino, n.kind, n.links, n.size, n.up, n.pages.length, n.names.length]
def nodeW (n : Node) : List UInt64 := (headN n).map u64I ++ n.pages.map u64I ++ n.names.flatMap nameW
theorem writer_Text (b : Nat) (v : Value) (l : List UInt64) (x : ByteArray) (hx : x.size ≤ 2 ^ 30) (hl : l.length ≤ 2 ^ 39) (w : World) (h : WAt w b v l) :
    Calls Tryz.prog 83 #[.pointer (some ⟨b, 0, none⟩), .string x] w fun r w' => (∃ u, r = .returned u) ∧ Wrote b v (l ++ (UInt64.ofNat x.size :: packL x.data.toList)) w w' := by
  refine calls_rx h83 Tryz.func83 rfl Tryz.mixed (by kernel_rfl) Tryz.results83 ?_
  simp -dsimp [go_sem]
  refine (writer_Num b v l x.size (by omega) w h).mono ?_
  rintro _ w1 ⟨⟨u1, rfl⟩, v1, h1, s1, b1⟩
  refine ret_intro ?_
  rw [u64I_nat _ (by omega)] at h1
  have H1 := h1.hb
  have hne1 : ∀ g, ownB v1 = some g → g ≠ b := fun g q => h1.ho.ne_box1 H1 q
  obtain ⟨va, vc, rfl, -⟩ := h1.ho.slice
  generalize hvv : Value.slice va (l ++ [UInt64.ofNat x.size]).length vc = v1 at *
  have H1c := blk_cell H1; have H1f := blk_free H1; have H1l := blk_lt H1
  simp -dsimp [go_sem, H1c, H1f, H1l]
  obtain ⟨ba, bc, w2, hcv, hsl, k2⟩ := conv_bytes 9 Tryz.underlying9 x w1.drew (by omega)
  rw [hcv]
  have k12 := Keep.trans (keep_drew w1) k2
  simp -dsimp [go_sem]
  rw [show x.data.toList.length = x.size from by simp] at hsl
  refine ⟨Keep.agree k12 (Agree.refl _), ?_⟩
  refine (words_Pack _ _ _ w2 hsl (by simpa using (by omega : x.size ≤ 2 ^ 40))).mono ?_; rintro _ w3 ⟨u, rfl, o3, k3, b3⟩; refine ret_intro ?_
  have k13 := Keep.trans k12 k3
  refine ⟨Keep.agree k13 (Agree.refl _), ?_⟩
  obtain ⟨ua, uc, rfl, -⟩ := o3.slice
  simp -dsimp [go_sem]
  have hpk : (packL x.data.toList).length ≤ 2 ^ 30 := by rw [packL_len, show x.data.toList.length = x.size from by simp]; omega
  have hl1 : (l ++ [UInt64.ofNat x.size]).length = l.length + 1 := by simp
  refine app_flat 8 flat_word Tryz.underlying62 (by kernel_rfl) one_word (h1.ho.keep k13) ((o3.all flat_word (Y := fun _ => False)).sl (fun _ _ q => q)) (by rw [hl1]; unfold maxLen; omega) (by rw [hl1]; omega) ?_
  intro v' w4 o4 s4 b4
  have H4 := s4.blk (k13.blk H1 (fun q => q)) (fun q => hne1 _ q rfl)
  have hle : l ++ [UInt64.ofNat x.size] ++ packL x.data.toList = l ++ UInt64.ofNat x.size :: packL x.data.toList := by simp
  rw [hle] at o4
  obtain ⟨va', vc', rfl, -⟩ := o4.slice
  generalize (l ++ UInt64.ofNat x.size :: packL x.data.toList).length = nn at *
  clear H1c H1f H1l
  have H4c := blk_cell H4; have H4f := blk_free H4; have H4l := blk_lt H4
  simp -dsimp [go_sem, H4c, H4f, H4l]
  have hne2 : ∀ g, ownB (.slice va' nn vc') = some g → g ≠ b := fun g q => by
    rcases b4 g q with q' | q'
    · exact hne1 g q'
    · have := blk_lt H1; have := k13.size; omega
  have l13 := k13.size
  refine Wrote.then s1 b1 ⟨.slice va' nn vc', ⟨blk_eq (blk_set H4 0 _) (by first | rfl | simp), ?_⟩, ?_, fun g q => ?_⟩
  · exact o4.flat flat_word (show Step (fun k => k = b) _ _ from (Step.refl (fun k => k = b) w4).set (.inl rfl) _) (fun g q => hne2 g q)
  · exact (Step.trans (O := fun k => k = b ∨ ownB v1 = some k) (Keep.any k13) s4 (fun j _ q => .inr q)).set (.inl (.inl rfl)) _
  · rcases b4 g q with q' | q'
    · exact .inl q'
    · right; omega
theorem image_put (X : Nat → Prop) (n : Node) (cs : List Value) (b : Nat) (v : Value) (l : List UInt64) (hl : l.length ≤ 2 ^ 38) (hp : n.pages.length ≤ 2 ^ 20) (hn : n.names.length ≤ 2 ^ 16) (hnm : ∀ x ∈ n.names, x.name.size ≤ 2 ^ 20) (w : World) (h : WAt w b v l) (hr : rNode.R X w n cs) (hXb : X b) (hXv : ∀ g, ownB v = some g → X g) :
    Calls Tryz.prog 48 #[.pointer (some ⟨b, 0, none⟩), .agg cs.toArray] w fun r w' => (∃ u, r = .returned u) ∧ Wrote b v (l ++ nodeW n) w w' := by
  obtain ⟨p, m, rfl, hp, hm, hok⟩ := id hr
  obtain ⟨pa, pc, rfl, -⟩ := id hp
  obtain ⟨ma, mc, rfl, -⟩ := id hm
  refine calls_rx h48 Tryz.func48 rfl Tryz.mixed (by kernel_rfl) Tryz.results48 ?_
  unfold Node.enc
  simp -dsimp [go_sem]
  generalize hW : w.alloc _ = w1
  obtain ⟨N1, k1, z1⟩ := alloc1 hW
  clear hW
  refine loop_intro (σ := Nat) (fun i => [.int .i64 i]) (fun i w' => i ≤ 7 ∧ Wrote b v (l ++ ((headN n).take i).map u64I) w1 w') (fun i => 7 - i) 0 (by simp -dsimp [go_sem]; rfl) (by simp -dsimp [go_sem]) ⟨by omega, by simpa using Wrote.refl (h.keep k1)⟩ ?_
  rintro i w2 ⟨hi, v2, h2, s2, b2⟩
  simp -dsimp [go_sem]
  have hlt : ((headN n).take i).length ≤ 7 := by simp [headN]; omega
  by_cases g1 : i < 7
  · have g1' : (i : Int) < 7 := by omega
    have hxx : (headN n)[i]? = some (headN n)[i] := List.getElem?_eq_getElem _
    generalize (headN n)[i] = x at hxx
    have hcs : (#[Value.int IntKind.i64 n.ino, Value.int IntKind.i64 n.kind, Value.int IntKind.i64 n.links, Value.int IntKind.i64 n.size, Value.int IntKind.i64 n.up, Value.int IntKind.i64 n.pages.length, Value.int IntKind.i64 n.names.length] : Array Value)[i]? = some (.int .i64 x) := by
      have : (#[Value.int IntKind.i64 n.ino, Value.int IntKind.i64 n.kind, Value.int IntKind.i64 n.links, Value.int IntKind.i64 n.size, Value.int IntKind.i64 n.up, Value.int IntKind.i64 n.pages.length, Value.int IntKind.i64 n.names.length] : Array Value) = ((headN n).map (Value.int .i64)).toArray := rfl
      rw [this, List.getElem?_toArray, List.getElem?_map, hxx]; rfl
    have hix := fun w => index_int (t := 125) Tryz.underlying125 _ i g1 x hcs w
    simp -dsimp [go_sem, g1', hix]
    refine (writer_Num b v2 _ x (by rw [List.length_append, List.length_map]; omega) w2 h2).mono ?_
    rintro _ w3 ⟨⟨u3, rfl⟩, hw3⟩
    refine ret_intro ?_
    have ht : l ++ ((headN n).take i).map u64I ++ [u64I x] = l ++ ((headN n).take (i + 1)).map u64I := by rw [List.take_add_one, hxx]; simp
    rw [ht] at hw3
    simp -dsimp [go_sem]
    try simp -dsimp (disch := omega) only [IntWalk.i64_in, IntWalk.u64_in, IntWalk.u8_in]
    exact back_intro (i + 1) (by simp -dsimp [go_sem]) (by simp -dsimp [go_sem]) ⟨by omega, Wrote.then s2 b2 (by simpa only [List.map_take] using hw3)⟩ (by omega)
  obtain rfl : i = 7 := by omega
  rw [List.take_of_length_le (by simp [headN])] at h2
  have hvlt : ∀ g, ownB v = some g → g < w.heap.size := fun g q => h.ho.lt q
  have hblt := blk_lt h.hb
  have N2 := s2.blk N1 (fun q => q.elim (fun q => by omega) (fun q => by have := hvlt _ q; omega))
  have hl2 : (l ++ (headN n).map u64I).length ≤ 2 ^ 38 + 7 := by rw [List.length_append, List.length_map]; simp [headN]; omega
  generalize hL2 : l ++ (headN n).map u64I = L2 at *
  have N2c := blk_cell N2; have N2f := blk_free N2; have N2l := blk_lt N2
  simp -dsimp [go_sem, N2c, N2f, N2l]
  have hp1 := hp.keep k1
  refine loop_intro (σ := Nat) (fun i => [.int .i64 i]) (fun i w' => i ≤ n.pages.length ∧ Wrote b v (L2 ++ (n.pages.take i).map u64I) w1 w') (fun i => n.pages.length - i) 0 (by simp -dsimp [go_sem]; rfl) (by simp -dsimp [go_sem]) ⟨by omega, v2, by simpa using h2, s2, b2⟩ ?_
  clear h2 s2 b2 N2c N2f N2l N2
  rintro i w3 ⟨hi3, v3, h3, s3, b3⟩
  simp -dsimp [go_sem]
  by_cases g1 : i < n.pages.length
  · have hxx : n.pages[i]? = some n.pages[i] := List.getElem?_eq_getElem _
    generalize n.pages[i] = x at hxx
    have hp3 : Sl rInt X w3 (.slice pa n.pages.length pc) n.pages := hp1.step s3 (fun j q => q.elim (fun q => by rw [q]; exact hXb) (fun q => hXv j q))
    obtain ⟨b6, off6, c6', e6, hb6, -, hc6, hx64⟩ := hp3.int hxx
    cases e6
    have i2 : (i : Int) < n.pages.length := by omega
    simp -dsimp [go_sem, g1, i2, hb6, hc6]
    refine (writer_Num b v3 _ x (by rw [List.length_append, List.length_map, List.length_take]; omega) w3 h3).mono ?_
    rintro _ w4 ⟨⟨u4, rfl⟩, hw4⟩
    refine ret_intro ?_
    have ht : L2 ++ (n.pages.take i).map u64I ++ [u64I x] = L2 ++ (n.pages.take (i + 1)).map u64I := by rw [List.take_add_one, hxx]; simp
    rw [ht] at hw4
    simp -dsimp [go_sem]
    try simp -dsimp (disch := omega) only [IntWalk.i64_in, IntWalk.u64_in, IntWalk.u8_in]
    exact back_intro (i + 1) (by simp -dsimp [go_sem]) (by simp -dsimp [go_sem]) ⟨by omega, Wrote.then s3 b3 (by simpa only [List.map_take] using hw4)⟩ (by omega)
  obtain rfl : i = n.pages.length := by omega
  rw [List.take_length] at h3
  have N3 := s3.blk N1 (fun q => q.elim (fun q => by omega) (fun q => by have := hvlt _ q; omega))
  have hl3 : (L2 ++ n.pages.map u64I).length ≤ 2 ^ 38 + 2 ^ 21 := by rw [List.length_append, List.length_map]; omega
  generalize hL3 : L2 ++ n.pages.map u64I = L3 at *
  have N3c := blk_cell N3; have N3f := blk_free N3; have N3l := blk_lt N3
  simp -dsimp [go_sem, N3c, N3f, N3l, Nat.lt_irrefl]
  have hm1 := hm.keep k1
  have hnl : ∀ i, (n.names.take i).flatMap nameW = (n.names.take i).flatMap nameW := fun _ => rfl
  have hfl : ∀ i, ((n.names.take i).flatMap nameW).length ≤ i * 262144 := fun i => by
    have h6 : ∀ (L : List Entry), (∀ x ∈ L, x.name.size ≤ 2 ^ 20) → (L.flatMap nameW).length ≤ L.length * 262144 := by
      intro L
      induction L with
      | nil => simp
      | cons y L ih =>
        intro hL
        have h1 := ih (fun z hz => hL z (List.mem_cons_of_mem _ hz))
        have h2 := hL y (List.mem_cons_self ..)
        have h4 := packL_len y.name.data.toList
        have h5 : y.name.data.toList.length = y.name.size := by simp
        have h3 : (nameW y).length ≤ 262144 := by unfold nameW; rw [List.length_append, List.length_cons, List.length_singleton]; omega
        rw [List.flatMap_cons, List.length_append, List.length_cons]; omega
    have := h6 (n.names.take i) (fun x hx => hnm x (List.mem_of_mem_take hx))
    have h7 : (n.names.take i).length ≤ i := by rw [List.length_take]; omega
    exact Nat.le_trans this (Nat.mul_le_mul_right _ h7)
  refine loop_intro (σ := Nat) (fun i => [.int .i64 i]) (fun i w' => i ≤ n.names.length ∧ Wrote b v (L3 ++ (n.names.take i).flatMap nameW) w1 w') (fun i => n.names.length - i) 0 (by simp -dsimp [go_sem]; rfl) (by simp -dsimp [go_sem]) ⟨by omega, v3, by simpa using h3, s3, b3⟩ ?_
  clear h3 s3 b3 N3c N3f N3l N3
  rintro i w4 ⟨hi4, v4, h4, s4, b4⟩
  simp -dsimp [go_sem]
  have hfi := hfl i
  by_cases g1 : i < n.names.length
  rotate_left
  · obtain rfl : i = n.names.length := by omega
    rw [List.take_length] at h4
    simp -dsimp [go_sem, Nat.lt_irrefl]
    have he : l ++ nodeW n = L3 ++ n.names.flatMap nameW := by rw [← hL3, ← hL2]; unfold nodeW; simp
    rw [he]
    exact Wrote.then (Keep.any k1) (fun g q => .inl q) ⟨v4, h4, s4, b4⟩
  have hxx : n.names[i]? = some n.names[i] := List.getElem?_eq_getElem _
  generalize n.names[i] = x at hxx
  have hm4 : Sl rEntry X w4 (.slice ma n.names.length mc) n.names := hm1.step s4 (fun j q => q.elim (fun q => by rw [q]; exact hXb) (fun q => hXv j q))
  obtain ⟨b6, off6, c6', e6, hb6, -, hx64, hc6, hc7⟩ := hm4.entry hxx
  cases e6
  have hxs := hnm x (List.mem_of_getElem? hxx)
  have i2 : (i : Int) < n.names.length := by omega
  simp -dsimp [go_sem, g1, i2, hb6, hc6, hc7]
  generalize hW : w4.alloc _ = w5
  obtain ⟨E5, k5, z5⟩ := alloc1 hW
  clear hW
  have E5c := blk_cell E5; have E5f := blk_free E5; have E5l := blk_lt E5
  try simp -dsimp [go_sem, E5c, E5f, E5l]
  refine (writer_Text b v4 _ x.name (by omega) (by rw [List.length_append]; omega) w5 (h4.keep k5)).mono ?_
  rintro _ w6 ⟨⟨u6, rfl⟩, hw6⟩
  refine ret_intro ?_
  have hvlt4 : ∀ g, ownB v4 = some g → g < w4.heap.size := fun g q => h4.ho.lt q
  have hb4lt := blk_lt h4.hb
  obtain ⟨v6, h6, s6, b6'⟩ := id hw6
  have E6 := s6.blk E5 (fun q => q.elim (fun q => by omega) (fun q => by have := hvlt4 _ q; omega))
  clear E5c E5f E5l
  have E6c := blk_cell E6; have E6f := blk_free E6; have E6l := blk_lt E6
  simp -dsimp [go_sem, E6c, E6f, E6l]
  have hl6 : (L3 ++ (n.names.take i).flatMap nameW ++ (UInt64.ofNat x.name.size :: packL x.name.data.toList)).length ≤ 2 ^ 39 := by
    rw [List.length_append, List.length_append, List.length_cons, packL_len, show x.name.data.toList.length = x.name.size from by simp]; omega
  refine (writer_Num b v6 _ x.ino (by omega) w6 h6).mono ?_
  rintro _ w7 ⟨⟨u7, rfl⟩, hw7⟩
  refine ret_intro ?_
  have ht : L3 ++ (n.names.take i).flatMap nameW ++ (UInt64.ofNat x.name.size :: packL x.name.data.toList) ++ [u64I x.ino] = L3 ++ (n.names.take (i + 1)).flatMap nameW := by
    rw [List.take_add_one, hxx]; simp [nameW]
  rw [ht] at hw7
  simp -dsimp [go_sem]
  try simp -dsimp (disch := omega) only [IntWalk.i64_in, IntWalk.u64_in, IntWalk.u8_in]
  have s56 : Step (fun k => k = b ∨ ownB v = some k) w1 w6 := (s4.then k5).trans s6 (fun j hj q => q.elim .inl (fun q => .inr ((b4 j q).resolve_right (by omega))))
  have b56 : ∀ g, ownB v6 = some g → ownB v = some g ∨ w1.heap.size ≤ g := fun g q => by
    rcases b6' g q with q' | q'
    · exact b4 g q'
    · have := s4.size; right; omega
  exact back_intro (i + 1) (by simp -dsimp [go_sem]) (by simp -dsimp [go_sem]) ⟨by omega, Wrote.then s56 b56 hw7⟩ (by omega)
theorem clone_words (X : Nat → Prop) (v : Value) (l : List UInt64) (w : World) (h : Sl rWord X w v l) (hl : l.length ≤ 2 ^ 40) : Calls Tryz.prog 84 #[v] w fun e w' => ∃ v', e = .returned v' ∧ Ow rWord 66 X w' v' l ∧ Keep w w' ∧ ∀ g, ownB v' = some g → w.heap.size ≤ g := by
  refine calls_rx h84 Tryz.func84 rfl Tryz.mixed (by kernel_rfl) Tryz.results84 ?_
  obtain ⟨a, c, rfl, hc, hm, hs⟩ := id h
  cases a with
  | none =>
    have hl0 : l = [] := by
      cases l with
      | nil => rfl
      | cons x r => obtain ⟨b, off, e, -⟩ := hs (by simp); cases e
    subst hl0
    have q : ∀ w, (binOp .eql 62 (.slice none ([] : List UInt64).length c) (.slice none 0 0)).run Tryz.prog w = .ok (.bool true) w := fun w => eql_sl0 w none _ c Tryz.underlying62
    simp at q
    simp -dsimp [go_sem, q]
    exact ⟨Ow.nil _ _ _ _, Keep.refl w, by simp [ownB]⟩
  | some a =>
    have q : ∀ w, (binOp .eql 62 (.slice (some a) l.length c) (.slice none 0 0)).run Tryz.prog w = .ok (.bool false) w := fun w => eql_sl0 w (some a) _ c Tryz.underlying62
    simp -dsimp [go_sem, q]
    refine app_clone 8 Tryz.underlying62 (by kernel_rfl) one_word _ (h.keep (keep_alloc w _)) (by omega) ?_
    intro v' w' h1 k1 b1
    simp -dsimp [go_sem]
    exact ⟨h1, Keep.trans (keep_alloc w _) k1, fun g hg => by have := b1 g hg; simp at this; omega⟩
theorem check_add (b : Nat) (s x : UInt64) (w : World) (hb : w.heap[b]? = some (.cells #[.int .u64 (s.toNat : Int)] 66 (0, 0))) :
    Calls Tryz.prog 121 #[.int .u64 x.toNat, .pointer (some ⟨b, 0, none⟩)] w fun r w' => (∃ u, r = .returned u) ∧ w'.heap[b]? = some (.cells #[.int .u64 ((moreW s x).toNat : Int)] 66 (0, 0)) ∧ Step (fun k => k = b) w w' := by
  refine calls_rx h121 Tryz.func121 rfl Tryz.mixed (by kernel_rfl) Tryz.results121 ?_
  have hbc := blk_cell hb; have hbf := blk_free hb; have hbl := blk_lt hb
  simp -dsimp [go_sem, hbc, hbf, hbl]
  refine (check_More s x w).mono ?_; rintro _ w1 ⟨rfl, rfl⟩; refine ret_intro ?_
  simp -dsimp [go_sem, hbc, hbf, hbl]
  exact ⟨(Array.getElem?_eq_some_iff.1 (blk_set hb 0 (.int .u64 ((moreW s x).toNat : Int)))).2, (Step.refl (fun k => k = b) w).set (.inl rfl) _⟩
theorem check_Sum (X : Nat → Prop) (v : Value) (l : List UInt64) (w : World) (h : Sl rWord X w v l) :
    Calls Tryz.prog 85 #[v] w fun r w' => r = .returned (.int .u64 (sumL l).toNat) ∧ Keep w w' := by
  obtain ⟨a, c, rfl, -⟩ := id h
  have hmx := h.len
  unfold maxLen at hmx
  have hst : ∀ w, Calls Tryz.prog 120 #[] w fun r w' => r = .returned (.int .u64 (14695981039346656037 : Nat)) ∧ w = w' := fun w => by
    refine calls_rx h120 Tryz.func120 rfl Tryz.mixed (by kernel_rfl) Tryz.results120 ?_
    simp -dsimp [go_sem]
  refine calls_rx h85 Tryz.func85 rfl Tryz.mixed (by kernel_rfl) Tryz.results85 ?_
  simp -dsimp [go_sem]
  refine (hst w).mono ?_; rintro _ w1 ⟨rfl, rfl⟩; refine ret_intro ?_
  simp -dsimp [go_sem]
  generalize hW : w.alloc _ = W
  obtain ⟨S0, k0, z0⟩ := alloc1 hW
  clear hW
  refine loop_intro (σ := Nat) (fun i => [.int .i64 i]) (fun i w' => i ≤ l.length ∧ Keep w w' ∧ w'.heap[w.heap.size]? = some (.cells #[.int .u64 ((sumL (l.take i)).toNat : Int)] 66 (0, 0))) (fun i => l.length - i) 0 (by simp -dsimp [go_sem]; rfl) (by simp -dsimp [go_sem]) ⟨Nat.zero_le _, k0, by simpa [sumL] using S0⟩ ?_
  rintro i w2 ⟨hi, k2, S2⟩
  simp -dsimp [go_sem]
  by_cases g1 : i < l.length
  rotate_left
  · obtain rfl : i = l.length := by omega
    rw [List.take_length] at S2
    have S2c := blk_cell S2; have S2f := blk_free S2; have S2l := blk_lt S2
    simp -dsimp [go_sem, Nat.lt_irrefl, S2c, S2f, S2l]
    exact k2
  have hx : l[i]? = some l[i] := List.getElem?_eq_getElem _
  generalize l[i] = x at hx
  obtain ⟨b, off, c', e, hb, -, hc⟩ := (h.keep k2).word hx
  cases e
  have i2 : (i : Int) < l.length := by omega
  simp -dsimp [go_sem, g1, i2, hb, hc]
  refine (check_add w.heap.size (sumL (l.take i)) x w2 S2).mono ?_
  rintro _ w3 ⟨⟨u3, rfl⟩, S3, s3⟩
  refine ret_intro ?_
  have hsn : sumL (l.take (i + 1)) = moreW (sumL (l.take i)) x := by unfold sumL; rw [List.take_add_one, hx, List.foldl_append]; rfl
  simp -dsimp [go_sem]
  try simp -dsimp (disch := omega) only [IntWalk.i64_in, IntWalk.u64_in, IntWalk.u8_in]
  exact back_intro (i + 1) (by simp -dsimp [go_sem]) (by simp -dsimp [go_sem]) ⟨by omega, Step.keep k2 s3 (fun j q => by omega), by rw [hsn]; exact S3⟩ (by omega)
theorem check_Seal (X : Nat → Prop) (v : Value) (l : List UInt64) (hl : l.length ≤ 2 ^ 40) (w : World) (h : Sl rWord X w v l) :
    Calls Tryz.prog 50 #[v] w fun r w' => ∃ u, r = .returned u ∧ Ow rWord 66 (fun _ => True) w' u (l ++ [sumL l]) ∧ Keep w w' ∧ ∀ g, ownB u = some g → w.heap.size ≤ g := by
  obtain ⟨a, c, rfl, -⟩ := id h
  refine calls_rx h50 Tryz.func50 rfl Tryz.mixed (by kernel_rfl) Tryz.results50 ?_
  simp -dsimp [go_sem]
  refine (clone_words X _ l w h hl).mono ?_
  rintro _ w1 ⟨u, rfl, o1, k1, b1⟩
  refine ret_intro ?_
  simp -dsimp [go_sem]
  refine (check_Sum X _ l w1 (h.keep k1)).mono ?_; rintro _ w2 ⟨rfl, k2⟩; refine ret_intro ?_
  have hu1 : ∀ g, ownB u = some g → g < w1.heap.size := fun g q => o1.lt q
  obtain ⟨ua, uc, rfl, -⟩ := o1.slice
  simp -dsimp [go_sem]
  generalize hW : w2.alloc _ = w3
  obtain ⟨C3, k3, z3⟩ := alloc1 hW
  clear hW
  have k23 := Keep.trans k2 k3
  refine app_flat 8 flat_word Tryz.underlying62 (by kernel_rfl) one_word ((o1.keep k23).all flat_word (Y := fun _ => True)) (Sl.of_blk (X := fun _ => False) (l := [sumL l]) C3 id (Cs.one rfl) rfl (by show 1 ≤ maxLen; unfold maxLen; omega)) (by rw [List.length_singleton]; unfold maxLen; omega) (by rw [List.length_singleton]; omega) ?_
  intro v' w4 o4 s4 b4
  obtain ⟨va', vc', rfl, -⟩ := o4.slice
  rw [show (l ++ [sumL l]).length = l.length + 1 from by simp] at o4 b4 ⊢
  simp -dsimp [go_sem]
  have l1 := k1.size
  have l23 := k23.size
  refine ⟨o4, Step.keep (Keep.trans k1 k23) s4 (fun j q => b1 j q), fun g q => ?_⟩
  rcases b4 g q with q' | q'
  · exact b1 g q'
  · omega
theorem writer_Words (b : Nat) (v : Value) (l : List UInt64) (hl : l.length ≤ 2 ^ 40) (w : World) (h : WAt w b v l) :
    Calls Tryz.prog 51 #[.pointer (some ⟨b, 0, none⟩)] w fun r w' => ∃ u, r = .returned u ∧ Ow rWord 66 (fun _ => True) w' u l ∧ Keep w w' ∧ ∀ g, ownB u = some g → w.heap.size ≤ g := by
  have H0 := h.hb
  have hsl : Sl rWord (fun _ => False) w v l := (h.ho.all flat_word (Y := fun _ => False)).sl (fun _ _ q => q)
  obtain ⟨va, vc, rfl, -⟩ := h.ho.slice
  refine calls_rx h51 Tryz.func51 rfl Tryz.mixed (by kernel_rfl) Tryz.results51 ?_
  have H0c := blk_cell H0; have H0f := blk_free H0; have H0l := blk_lt H0
  simp -dsimp [go_sem, H0c, H0f, H0l]
  refine (clone_words (fun _ => False) _ l w hsl hl).mono ?_
  rintro _ w1 ⟨u, rfl, o1, k1, b1⟩
  refine ret_intro ?_
  simp -dsimp [go_sem]
  exact ⟨o1.all flat_word, k1, b1⟩
end Go.Proofs.YtdfjfagljngciaaGreat
