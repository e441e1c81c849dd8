/- The reference: how many words a state has, all references, whether it fits, whether effects can be tried. -/
import Derived.Test.YtdfjfagljngciaaGreatRq
import Derived.Test.YtdfjfagljngciaaGreatPk
import Derived.Test.YtdfjfagljngciaaGreatShp
import Derived.Test.YtdfjfagljngciaaGreatDone
set_option linter.all false
set_option maxRecDepth 100000
set_option maxHeartbeats 4000000
namespace Go.Proofs.YtdfjfagljngciaaGreat
open Go.RowKit Rx Go.MapKept

theorem ref_Words (X : Nat → Prop) (b : Nat) (v : Value) (s : St) (k : Nat) (hg : Good k s) (hk : k ≤ 2 ^ 19) (w : World) (h : RAt w X b v s) :
    Calls Tryz.prog 18 #[.pointer (some ⟨b, 0, none⟩)] w fun r w' => r = .returned (.int .i64 (wordsS s)) ∧ Keep w w' := by
  have H0 := h.hb
  obtain ⟨a, c, rfl, -⟩ := h.ho.slice
  refine calls_rx h18 Tryz.func18 rfl Tryz.mixed (by kernel_rfl) Tryz.results18 ?_
  have H0c := blk_cell H0; have H0f := blk_free H0; have H0l := blk_lt H0
  simp -dsimp [go_sem, H0c, H0f, H0l]
  have hl40 : s.L.length ≤ 2 ^ 40 := Nat.le_trans hg.len (by omega)
  refine loop_intro (σ := Nat) (fun i => [.int .i64 (2 + sumF wordsN (s.L.take i)), .int .i64 i]) (fun i w' => i ≤ s.L.length ∧ Keep w w') (fun i => s.L.length - i) 0 (by simp -dsimp [go_sem]; rfl) (by simp -dsimp [go_sem, sumF]) ⟨Nat.zero_le _, Keep.refl w⟩ ?_
  rintro i w1 ⟨hi, k1⟩
  have hw1 := words_take hg hk i
  simp -dsimp [go_sem]
  by_cases g1 : i < s.L.length
  rotate_left
  · obtain rfl : i = s.L.length := by omega
    rw [List.take_length]
    simp -dsimp [go_sem, Nat.lt_irrefl]
    exact ⟨rfl, k1⟩
  have hx : s.L[i]? = some s.L[i] := List.getElem?_eq_getElem _
  generalize s.L[i] = x at hx
  obtain ⟨g, off, c', p, m, e, hgs, hgo, hok, hp, hm, c0, c1, c2, c3, c4, c5, c6, hf, -⟩ := (h.ho.keep k1).node h.xv hx
  cases e
  obtain ⟨pa, pc, rfl, -⟩ := id hp
  obtain ⟨ma, mc, rfl, -⟩ := id hm
  have i2 : (i : Int) < s.L.length := by omega
  have hxo := hg.ok x (List.mem_of_getElem? hx)
  have hw2 := words_take hg hk (i + 1)
  rw [sumF_take hx] at hw2
  simp -dsimp [go_sem, g1, i2, hgs, hf, c0, c1, c2, c3, c4, c5, c6]
  generalize hW : w1.alloc _ = w2
  obtain ⟨N2, k2, z2⟩ := alloc1 hW
  clear hW
  have N2c := blk_cell N2; have N2f := blk_free N2; have N2l := blk_lt N2
  try simp -dsimp [go_sem, N2c, N2f, N2l]
  refine (ref_WordsOf X x (x.enc (.slice pa x.pages.length pc) (.slice ma x.names.length mc)) w2 (rNode.keep ⟨_, _, rfl, hp, hm, hok⟩ k2) (Nat.le_trans hxo.pg (by decide)) (Nat.le_trans hxo.len (by omega)) (fun y hy => Nat.le_trans (hxo.nm y hy).1 (by decide))).mono ?_; rintro _ w3 ⟨rfl, k3⟩; refine ret_intro ?_
  try simp -dsimp [go_sem]
  have e1 : IntKind.i64.wrap (2 + sumF wordsN (s.L.take i) + wordsN x) = 2 + sumF wordsN (s.L.take i) + wordsN x := IntWalk.i64_in _ (by omega)
  have e2 : 2 + sumF wordsN (s.L.take (i + 1)) = 2 + sumF wordsN (s.L.take i) + wordsN x := by rw [sumF_take hx]; omega
  rw [e1]
  try simp -dsimp (disch := omega) only [IntWalk.i64_in, IntWalk.u64_in, IntWalk.u8_in]
  exact back_intro (i + 1) (by simp -dsimp [go_sem, e2]) (by simp -dsimp [go_sem]) ⟨by omega, Keep.trans k1 (Keep.trans k2 k3)⟩ (by omega)
theorem filter_next {l : List Int} {i : Nat} {y : Int} (hy : l[i]? = some y) : (l.take (i + 1)).filter (fun x => !decide (x = 0)) = if y = 0 then (l.take i).filter (fun x => !decide (x = 0)) else (l.take i).filter (fun x => !decide (x = 0)) ++ [y] := by
  rw [List.take_add_one, hy, List.filter_append]
  by_cases g : y = 0 <;> simp [g]
theorem ref_Refs (X : Nat → Prop) (b : Nat) (v : Value) (s : St) (k : Nat) (hg : Good k s) (hk : k ≤ 2 ^ 19) (w : World) (h : RAt w X b v s) :
    Calls Tryz.prog 19 #[.pointer (some ⟨b, 0, none⟩)] w fun r w' => ∃ v, r = .returned v ∧ Ow rInt 3 (fun _ => True) w' v (refsS s) ∧ Keep w w' ∧ ∀ g, ownB v = some g → w.heap.size ≤ g := by
  have H0 := h.hb
  obtain ⟨a, c, rfl, -⟩ := h.ho.slice
  refine calls_rx h19 Tryz.func19 rfl Tryz.mixed (by kernel_rfl) Tryz.results19 ?_
  have H0c := blk_cell H0; have H0f := blk_free H0; have H0l := blk_lt H0
  simp -dsimp [go_sem, H0c, H0f, H0l]
  have hl40 : s.L.length ≤ 2 ^ 40 := Nat.le_trans hg.len (by omega)
  refine loop_intro (σ := Nat × Value) (fun t => [t.2, .int .i64 t.1]) (fun t w' => t.1 ≤ s.L.length ∧ Keep w w' ∧ Ow rInt 3 (fun _ => True) w' t.2 ((s.L.take t.1).flatMap refsN) ∧ ∀ g, ownB t.2 = some g → w.heap.size ≤ g) (fun t => s.L.length - t.1) (0, .slice none 0 0) (by simp -dsimp [go_sem]; rfl) (by simp -dsimp [go_sem]) ⟨Nat.zero_le _, Keep.refl w, by simpa using Ow.nil _ _ _ _, by simp [ownB]⟩ ?_
  rintro ⟨i, u⟩ w1 ⟨hi, k1, o1, b1⟩
  simp only at hi o1 b1
  simp -dsimp [go_sem]
  by_cases g1 : i < s.L.length
  rotate_left
  · obtain rfl : i = s.L.length := by omega
    rw [List.take_length] at o1
    simp -dsimp [go_sem, Nat.lt_irrefl]
    exact ⟨o1, k1, b1⟩
  have hx : s.L[i]? = some s.L[i] := List.getElem?_eq_getElem _
  generalize s.L[i] = x at hx
  obtain ⟨g, off, c', p, m, e, hgs, hgo, hok, hp, hm, c0, c1, c2, c3, c4, c5, c6, hf, -⟩ := (h.ho.keep k1).node h.xv hx
  cases e
  obtain ⟨g0, off0, cc0, p0, m0, e0, -, -, -, hp0, -, -, -, -, -, -, d5, -⟩ := h.ho.node h.xv hx
  cases e0
  have hpp : p = p0 := by have := k1.cell d5 (fun q => q); rw [c5] at this; exact Option.some.inj this
  subst hpp
  obtain ⟨pa, pc, rfl, -⟩ := id hp
  obtain ⟨ma, mc, rfl, -⟩ := id hm
  have i2 : (i : Int) < s.L.length := by omega
  have hxo := hg.ok x (List.mem_of_getElem? hx)
  have hrl := refs_le hg hk i
  simp -dsimp [go_sem, g1, i2, hgs, hf, c0, c1, c2, c3, c4, c5, c6]
  generalize hW : w1.alloc _ = w2
  obtain ⟨N2, k2, z2⟩ := alloc1 hW
  clear hW
  have N2c := blk_cell N2; have N2f := blk_free N2; have N2l := blk_lt N2
  try simp -dsimp [go_sem, N2c, N2f, N2l]
  have hpg := hxo.pg
  refine loop_intro (σ := Nat × Value) (fun t => [t.2, .int .i64 t.1]) (fun t w' => t.1 ≤ x.pages.length ∧ Keep w w' ∧ Ow rInt 3 (fun _ => True) w' t.2 ((s.L.take i).flatMap refsN ++ (x.pages.take t.1).filter (fun x => !decide (x = 0))) ∧ ∀ g, ownB t.2 = some g → w.heap.size ≤ g) (fun t => x.pages.length - t.1) (0, u) (by simp -dsimp [go_sem]; rfl) (by simp -dsimp [go_sem]) ⟨Nat.zero_le _, Keep.trans k1 k2, by simpa using o1.keep k2, b1⟩ ?_
  clear N2c N2f N2l
  rintro ⟨j, u2⟩ w3 ⟨hj, k3, o3, b3⟩
  simp only at hj o3 b3
  simp -dsimp [go_sem]
  by_cases y1 : j < x.pages.length
  rotate_left
  · obtain rfl : j = x.pages.length := by omega
    rw [List.take_length] at o3
    have ho : (s.L.take i).flatMap refsN ++ x.pages.filter (fun x => !decide (x = 0)) = (s.L.take (i + 1)).flatMap refsN := (flat_take (f := refsN) hx).symm
    rw [ho] at o3
    simp -dsimp [go_sem, Nat.lt_irrefl]
    try simp -dsimp (disch := omega) only [IntWalk.i64_in, IntWalk.u64_in, IntWalk.u8_in]
    exact back_intro (i + 1, u2) (by simp -dsimp [go_sem]) (by simp -dsimp [go_sem]) ⟨by show i + 1 ≤ _; omega, k3, o3, b3⟩ (by show s.L.length - (i + 1) < s.L.length - i; omega)
  have hy : x.pages[j]? = some x.pages[j] := List.getElem?_eq_getElem _
  generalize x.pages[j] = y at hy
  obtain ⟨b6, off6, c6', e6, hb6, -, hc6, hy64⟩ := (hp0.keep k3).int hy
  cases e6
  have y2 : (j : Int) < x.pages.length := by omega
  have hft := filter_next hy
  by_cases gy : y = 0
  · rw [if_pos gy] at hft
    simp -dsimp [go_sem, y1, y2, hb6, hc6, gy]
    try simp -dsimp (disch := omega) only [IntWalk.i64_in, IntWalk.u64_in, IntWalk.u8_in]
    exact back_intro (j + 1, u2) (by simp -dsimp [go_sem]) (by simp -dsimp [go_sem]) ⟨by show j + 1 ≤ _; omega, k3, by show Ow _ _ _ _ _ _; rw [hft]; exact o3, b3⟩ (by show x.pages.length - (j + 1) < x.pages.length - j; omega)
  · rw [if_neg gy] at hft
    simp -dsimp [go_sem, y1, y2, hb6, hc6, gy]
    generalize hW : w3.alloc _ = w4
    obtain ⟨C4, k4, z4⟩ := alloc1 hW
    clear hW
    have hfl : ((x.pages.take j).filter (fun x => !decide (x = 0))).length ≤ 64 := Nat.le_trans (List.length_filter_le _ _) (by rw [List.length_take]; omega)
    refine app_int hy64 C4 (o3.keep k4) (by rw [List.length_append]; omega) ?_
    intro v' w5 o5 s5 b5
    rw [List.append_assoc, ← hft] at o5
    simp -dsimp [go_sem]
    try simp -dsimp (disch := omega) only [IntWalk.i64_in, IntWalk.u64_in, IntWalk.u8_in]
    have l3 := k3.size
    exact back_intro (j + 1, v') (by simp -dsimp [go_sem]) (by simp -dsimp [go_sem]) ⟨by show j + 1 ≤ _; omega, Step.keep (Keep.trans k3 k4) s5 (fun j q => b3 j q), o5, fun j q => by rcases (b5 j q).1 with q' | q'; exact b3 j q'; omega⟩ (by show x.pages.length - (j + 1) < x.pages.length - j; omega)
theorem ref_Fits (X : Nat → Prop) (b : Nat) (v : Value) (s : St) (k : Nat) (hg : Good k s) (hk : k ≤ 2 ^ 19) (g : Geom) (hs : g.small) (w : World) (h : RAt w X b v s) :
    Calls Tryz.prog 17 #[.agg g.enc.toArray, .pointer (some ⟨b, 0, none⟩)] w fun r w' => r = .returned (.bool (fitsS g s)) ∧ Keep w w' := by
  have h1 := words_bd hg hk
  have h2 := refs_bd hg hk
  obtain ⟨g1, g2, g3, g4⟩ := hs
  have e1 : IntKind.i64.wrap (g.image - 1) = g.image - 1 := IntWalk.i64_in _ (by omega)
  have e2 : IntKind.i64.wrap (g.data - 1) = g.data - 1 := IntWalk.i64_in _ (by omega)
  have f1 : (decide (wordsS s ≤ g.image - 1)) = decide (0 ≤ leftW g s) := by unfold leftW; rw [Bool.eq_iff_iff]; simp only [decide_eq_true_eq]; omega
  have f2 : (decide ((refsS s).length ≤ g.data - 1)) = decide (0 ≤ leftP g s) := by unfold leftP; rw [Bool.eq_iff_iff]; simp only [decide_eq_true_eq]; omega
  unfold fitsS
  rw [← f1, ← f2]
  refine calls_rx h17 Tryz.func17 rfl Tryz.mixed (by kernel_rfl) Tryz.results17 ?_
  unfold Geom.enc
  simp -dsimp [go_sem]
  generalize hW : w.alloc _ = W
  obtain ⟨G0, k0, z0⟩ := alloc1 hW
  clear hW
  have h0 := (h.keep k0).keep (keep_drew W)
  refine (ref_Words X b v s k hg hk W.drew h0).mono ?_; rintro _ w1 ⟨rfl, k1⟩; refine ret_intro ?_
  have k01 := Keep.trans (keep_drew W) k1
  refine ⟨Keep.agree k01 (Agree.refl _), ?_⟩
  have G0c := blk_cell G0; have G0f := blk_free G0; have G0l := blk_lt G0
  by_cases q1 : wordsS s ≤ g.image - 1
  rotate_left
  · simp -dsimp [go_sem, G0c, G0f, G0l, e1, q1]
    exact ⟨Keep.agree k01 (Agree.refl _), Keep.trans k0 k01⟩
  simp -dsimp [go_sem, G0c, G0f, G0l, e1, q1]
  refine (ref_Refs X b v s k hg hk w1 ((h.keep k0).keep k01)).mono ?_; rintro _ w2 ⟨u, rfl, o2, k2, b2⟩; refine ret_intro ?_
  have k02 := Keep.trans k01 k2
  refine ⟨Keep.agree k02 (Agree.refl _), ?_⟩
  obtain ⟨ua, uc, rfl, -⟩ := o2.slice
  simp -dsimp [go_sem, G0c, G0f, G0l, e1, e2, q1]
  exact Keep.trans k0 k02
/-- The reference's number of a trial; i: the place. -/
def tryR (g : Geom) : St → List Effect → Int → Bool → Int
  | _, [], _, full => if full = true then 28 else 0
  | s, e :: l, i, full => if (applyS s e (if e.kind = 7 then 1099511627776 + i + 1 else 0)).2.2 = 0 then tryR g (applyS s e (if e.kind = 7 then 1099511627776 + i + 1 else 0)).1 l (i + 1) (full || !fitsS g (applyS s e (if e.kind = 7 then 1099511627776 + i + 1 else 0)).1) else 93
theorem tryR_B (g : Geom) : ∀ (l : List Effect) (s : St) (i : Int) (full : Bool), 0 ≤ i → tryR g s l i full = tryB g (shpS s) l full
  | [], _, _, _, _ => rfl
  | e :: l, s, i, full, hi => by
    have ha := applyS_shp s e (if e.kind = 7 then 1099511627776 + i + 1 else 0)
    rw [sg_ref (by omega)] at ha
    rw [tryR, tryB, ha]
    simp only [fitsS_shp]
    rw [tryR_B g l _ (i + 1) _ (by omega)]
theorem tryS_B (g : Geom) : ∀ (l : List Effect) (s : St) (n : Int) (full : Bool), 0 ≤ n → tryS g s l n full = tryB g (shpS s) l full
  | [], _, _, _, _ => rfl
  | e :: l, s, n, full, hn => by
    have ha := applyS_shp s e (if e.kind = 7 then n + 1 else 0)
    rw [sg_ref (by omega)] at ha
    rw [tryS, tryB, ha]
    simp only [fitsS_shp]
    rw [tryS_B g l _ _ _ (by split <;> omega)]
theorem try_same (g : Geom) (s : St) (l : List Effect) : tryR g s l 0 false = tryS g s l 1099511627776 false := by
  rw [tryR_B g l s 0 false (by omega), tryS_B g l s _ false (by omega)]
theorem ref_Try (X : Nat → Prop) (b : Nat) (v : Value) (s : St) (k : Nat) (hg : Good k s) (g : Geom) (hs : g.small) (v' : Value) (l : List Effect) (hk : k + 2 * l.length < 2 ^ 19) (hf : ∀ x ∈ l, x.few) (w : World) (hl : Sl rEffect (fun _ => False) w v' l) (h : RAt w X b v s) :
    Calls Tryz.prog 22 #[.agg g.enc.toArray, .pointer (some ⟨b, 0, none⟩), v'] w fun r w' => r = .returned (.int .i64 (tryR g s l 0 false)) ∧ Keep w w' := by
  obtain ⟨a, c, rfl, -⟩ := id hl
  refine calls_rx h22 Tryz.func22 rfl Tryz.mixed (by kernel_rfl) Tryz.results22 ?_
  unfold Geom.enc
  simp -dsimp [go_sem]
  generalize hW : w.alloc _ = W
  obtain ⟨G0, k0, z0⟩ := alloc1 hW
  clear hW
  refine (ref_Copy X b v s (Nat.le_trans hg.len (by omega)) (fun n hn => ⟨Nat.le_trans (hg.ok n hn).pg (by decide), Nat.le_trans (hg.ok n hn).len (by omega)⟩) W (h.keep k0)).mono ?_; rintro _ w1 ⟨b', v1, rfl, h1, k1, hb1, hv1⟩; refine ret_intro ?_
  have k01 := Keep.trans k0 k1
  simp -dsimp [go_sem]
  have G1 := k1.blk G0 (fun q => q)
  refine loop_intro (σ := Nat × Bool) (fun t => [.bool t.2, .int .i64 t.1]) (fun t w' => t.1 ≤ l.length ∧ Keep w w' ∧ w'.heap[w.heap.size]? = some (.cells g.enc.toArray 31 (0, 0)) ∧ ∃ u si, RAt w' (fun k => X k ∨ k = b' ∨ ownB u = some k) b' u si ∧ (∀ j, ownB u = some j → W.heap.size ≤ j) ∧ Good (k + 2 * t.1) si ∧
    tryR g s l 0 false = tryR g si (l.drop t.1) t.1 t.2) (fun t => l.length - t.1) (0, false) (by simp -dsimp [go_sem]; rfl) (by simp -dsimp [go_sem])
    ⟨Nat.zero_le _, k01, G1, v1, s, h1, hv1, by simpa using hg, rfl⟩ ?_
  rintro ⟨i, full⟩ w2 ⟨hi, k2, G2, u, si, h2, hu, hgi, ht⟩
  simp only at hi hgi ht
  rw [ht]
  clear G1
  simp -dsimp [go_sem]
  by_cases g1 : i < l.length
  rotate_left
  · obtain rfl : i = l.length := by omega
    rw [List.drop_length]
    cases full
    · simp -dsimp [go_sem, Nat.lt_irrefl]
      exact ⟨rfl, k2⟩
    · simp -dsimp [go_sem, Nat.lt_irrefl]
      exact ⟨rfl, k2⟩
  have hx : l[i]? = some l[i] := List.getElem?_eq_getElem _
  generalize l[i] = x at hx
  have hdr : l.drop i = x :: l.drop (i + 1) := by
    rw [List.drop_eq_getElem_cons g1]
    congr 1
    exact (List.getElem?_eq_some_iff.1 hx).2
  rw [hdr]
  obtain ⟨q, off, c', d, e, hq, -, hok, hd, c0, c1, c2, c3, c4, c5, c6, c7, c8⟩ := (hl.keep k2).effect hx
  cases e
  obtain ⟨da, dc, rfl, -⟩ := id hd
  have i2 : (i : Int) < l.length := by omega
  have hfx := few_sizes (hf x (List.mem_of_getElem? hx))
  simp -dsimp [go_sem, g1, i2, hq, c0, c1, c2, c3, c4, c5, c6, c7, c8]
  generalize hW : w2.alloc _ = w3
  obtain ⟨X3, k3, z3⟩ := alloc1 hW
  clear hW
  have k23 := Keep.trans k2 k3
  refine join_intro (σ := Unit) (fun _ => [.int .i64 (if x.kind = 7 then 1099511627776 + (i : Int) + 1 else 0)]) (fun _ w' => w3 = w') (by simp -dsimp [go_sem]; rfl) ?_ ?_
  · have X3c := blk_cell X3; have X3f := blk_free X3; have X3l := blk_lt X3
    by_cases gk : x.kind = 7
    · have dk : decide (x.kind = 7) = true := decide_eq_true gk
      have ea : IntKind.i64.wrap (1099511627776 + (i : Int)) = 1099511627776 + (i : Int) := IntWalk.i64_in _ (by omega)
      have eb : IntKind.i64.wrap (1099511627776 + (i : Int) + 1) = 1099511627776 + (i : Int) + 1 := IntWalk.i64_in _ (by omega)
      simp -dsimp [go_sem, X3c, X3f, X3l, dk, ea, eb]
      refine meet_intro () (by simp -dsimp [go_sem, gk]) (by simp -dsimp [go_sem]) rfl
    · simp -dsimp [go_sem, X3c, X3f, X3l, gk]
      refine meet_intro () (by simp -dsimp [go_sem, gk]) (by simp -dsimp [go_sem]) rfl
  rintro _ _ rfl
  have hex : tryR g si (x :: l.drop (i + 1)) i full = if (applyS si x (if x.kind = 7 then 1099511627776 + (i : Int) + 1 else 0)).2.2 = 0 then tryR g (applyS si x (if x.kind = 7 then 1099511627776 + (i : Int) + 1 else 0)).1 (l.drop (i + 1)) ((i : Int) + 1) (full || !fitsS g (applyS si x (if x.kind = 7 then 1099511627776 + (i : Int) + 1 else 0)).1) else 93 := by rw [tryR]
  rw [hex]
  clear hex
  have hrf : I64 (if x.kind = 7 then 1099511627776 + (i : Int) + 1 else 0) := by unfold I64; split <;> omega
  generalize (if x.kind = 7 then 1099511627776 + (i : Int) + 1 else 0) = rf at hrf ⊢
  have X3c := blk_cell X3; have X3f := blk_free X3; have X3l := blk_lt X3
  simp -dsimp [go_sem, X3c, X3f, X3l]
  refine (ref_Apply _ b' u si (k + 2 * i) hgi (by omega) x hok hfx.1 hfx.2 rf hrf da dc w3 (h2.keep k3)).mono ?_
  rintro _ w4 ⟨gv, u', rfl, -, h4, s4, -, hu'⟩
  refine ret_intro ?_
  have hgj := good_apply hgi (by omega) x rf
  have l0 := k0.size
  have k04 : Keep w w4 := Step.keep k23 s4 (fun j q => q.elim (fun q => by omega) (fun q => by have := hu j q; omega))
  have hne3 : w.heap.size ≠ b' := by omega
  have G4 := s4.blk (k3.blk G2 (fun q => q)) (fun q => q.elim (fun q => hne3 q) (fun q => by have := hu _ q; omega))
  have hu4 : ∀ j, ownB u' = some j → W.heap.size ≤ j := fun j q => by
    rcases hu' j q with q' | q'
    · exact hu j q'
    · have := k23.size; have := k2.size; have := (Keep.trans k0 k1).size; have := h2.xl b' h2.xb; omega
  rcases applyS_err si x rf with he | he | he
  rotate_left
  · rw [he]
    simp -dsimp [go_sem]
    exact k04
  · rw [he]
    simp -dsimp [go_sem]
    exact k04
  rw [he, if_pos rfl]
  have hgk : k + 2 * i + 2 = k + 2 * (i + 1) := by omega
  rw [hgk] at hgj
  generalize (applyS si x rf).1 = sj at h4 hgj ⊢
  clear X3c X3f X3l
  have h4' := h4.mono (Y := fun k => X k ∨ k = b' ∨ ownB u' = some k) (.inr (.inl rfl)) (fun g q => .inr (.inr q)) (fun j q => by
    rcases q with q | q | q
    · exact .inl (.inl q)
    · exact .inl (.inr (.inl q))
    · exact .inr q)
  unfold Geom.enc at G4
  have G4c := blk_cell G4; have G4f := blk_free G4; have G4l := blk_lt G4
  simp -dsimp [go_sem, G4c, G4f, G4l]
  refine (ref_Fits _ b' u' sj (k + 2 * (i + 1)) hgj (by omega) g hs w4 h4').mono ?_; rintro _ w5 ⟨rfl, k5⟩; refine ret_intro ?_
  have h5 := h4'.keep k5
  have G5 := k5.blk G4 (fun q => q)
  have k05 := Keep.trans k04 k5
  cases hft : fitsS g sj
  · simp -dsimp [go_sem]
    try simp -dsimp (disch := omega) only [IntWalk.i64_in, IntWalk.u64_in, IntWalk.u8_in]
    exact back_intro (i + 1, true) (by simp -dsimp [go_sem]) (by simp -dsimp [go_sem]) ⟨by show i + 1 ≤ _; omega, k05, G5, u', ⟨sj, h5, hu4, hgj, by simp⟩⟩ (by show l.length - (i + 1) < l.length - i; omega)
  · simp -dsimp [go_sem]
    try simp -dsimp (disch := omega) only [IntWalk.i64_in, IntWalk.u64_in, IntWalk.u8_in]
    exact back_intro (i + 1, full) (by simp -dsimp [go_sem]) (by simp -dsimp [go_sem]) ⟨by show i + 1 ≤ _; omega, k05, G5, u', ⟨sj, h5, hu4, hgj, by simp⟩⟩ (by show l.length - (i + 1) < l.length - i; omega)
end Go.Proofs.YtdfjfagljngciaaGreat
