/- Package name: Split; the reference's. -/
import Derived.Test.YtdfjfagljngciaaGreatDoorPth
set_option linter.all false
set_option maxRecDepth 100000
set_option maxHeartbeats 4000000
namespace Go.Proofs.YtdfjfagljngciaaGreatDoor
open Go.RowKit Rx

theorem alloc1s {w W : World} {A : Obj} (h : w.alloc A = W) : W.heap[w.heap.size]? = some A ∧ Keep w W ∧ W.heap.size = w.heap.size + 1 := by
  subst h
  exact ⟨heap_alloc_new w A, (Keep.refl w).alloc _, by simp⟩
theorem app_str {W : World} {v : Value} {l : List ByteArray} {x : ByteArray} {g : Nat} (hb : W.heap[g]? = some (.cells #[.string x] 9 (0, 0))) (o1 : Ow rStr 9 (fun _ => True) W v l) (hl : l.length ≤ 2 ^ 40)
    {k : Value → World → Prop} {tk : Tag k} (hk : ∀ v' w', Ow rStr 9 (fun _ => True) w' v' (l ++ [x]) → Step (fun g => ownB v = some g) W w' → (∀ g, ownB v' = some g → (ownB v = some g ∨ W.heap.size ≤ g) ∧ g < w'.heap.size) → k v' w') :
    appF Tryz.prog #[83, 83] 83 (Shut k tk) v (.slice (some ⟨g, 0, none⟩) 1 1) W := by
  refine app_flat 16 flat_str Tryz.underlying83 (by kernel_rfl) one_str o1 (Sl.of_blk (X := fun _ => False) (r := rStr) (l := [x]) hb id (Cs.one (r := rStr) rfl) rfl (by show 1 ≤ maxLen; unfold maxLen; omega)) (by rw [List.length_singleton]; unfold maxLen; omega) (by rw [List.length_singleton]; omega) ?_
  intro v' w' h1 k2 b2
  exact hk v' w' h1 k2 (fun g hg => ⟨b2 g hg, h1.lt hg⟩)
theorem pre_abs (p : ByteArray) : Lib.hasPrefix p.data.toList [47] = isAbs p := by
  unfold isAbs Lib.hasPrefix
  cases p.data.toList with
  | nil => rfl
  | cons b r =>
    by_cases h : b = 47
    · subst h; simp [List.isPrefixOf]
    · have h' : ¬ (47 : UInt8) = b := fun q => h q.symm
      simp [List.isPrefixOf, h, h']
theorem Cs.strs {X : Nat → Prop} {w : World} : ∀ (l : List ByteArray), Cs rStr X w l (l.map Value.string)
  | [] => Cs.nil
  | x :: l => Cs.cons (r := rStr) (cs := [.string x]) rfl (Cs.strs l)
theorem okP_take {l : List ByteArray} {i : Nat} {x : ByteArray} (hx : l[i]? = some x) : okP (l.take (i + 1)) = if x.size = 0 then okP (l.take i) else okP (l.take i) ++ [x] := by
  rw [List.take_add_one, hx, okP_app]
  unfold okP
  simp only [Option.toList]
  by_cases h : x.size = 0
  · rw [if_pos h, List.filter_cons_of_neg (by simp only [h]; decide)]; simp
  · rw [if_neg h, List.filter_cons_of_pos (by simp only [h]; decide)]; simp
theorem chkP_take {l : List ByteArray} {i : Nat} {x : ByteArray} (hx : l[i]? = some x) (h0 : chkP (l.take i) = 0) : chkP (l.take (i + 1)) = if x.size = 0 then 0 else nameC x := by
  rw [List.take_add_one, hx, chkP_app, if_pos h0]
  simp only [Option.toList, chkP]
  by_cases h : x.size = 0
  · rw [if_pos h, if_pos h]
  · rw [if_neg h, if_neg h]
    split
    · rename_i q; exact q.symm
    · rfl
theorem chkP_stop {l : List ByteArray} {i : Nat} {x : ByteArray} (hx : l[i]? = some x) (h0 : chkP (l.take i) = 0) (h1 : ¬ x.size = 0) (h2 : ¬ nameC x = 0) : chkP l = nameC x := by
  have h := chkP_take hx h0
  rw [if_neg h1] at h
  rw [← List.take_append_drop (i + 1) l, chkP_app, h, if_neg h2]
theorem okP_one0 {x : ByteArray} (h : x.size = 0) : okP [x] = [] := by
  unfold okP
  rw [List.filter_cons_of_neg (by simp only [h]; decide)]; rfl
theorem okP_one1 {x : ByteArray} (h : ¬ x.size = 0) : okP [x] = [x] := by
  unfold okP
  rw [List.filter_cons_of_pos (by simp only [h]; decide)]; rfl
theorem name_Split (p : ByteArray) (m : Int) (w : World) (hm : w.cell? ⟨0, 0, none⟩ = some (.int .i64 m)) :
    Calls Tryz.prog 40 #[.string p] w fun e w' => ∃ v, e = .returned (.tuple #[v, .int .i64 (splitP p).2]) ∧ Sl rStr (fun _ => False) w' v (splitP p).1 ∧ Keep w w' := by
  refine calls_rx h40 Tryz.func40 rfl Tryz.mixed (by kernel_rfl) Tryz.results40 ?_
  unfold splitP
  simp -dsimp [go_sem]
  by_cases g1 : 120 < p.size
  · have g1' : (120 : Int) < p.size := by omega
    rw [if_pos g1]
    simp -dsimp [go_sem, g1']
    exact ⟨Sl.nil _ _ _, Keep.refl w⟩
  have g1' : ¬ (120 : Int) < p.size := by omega
  rw [if_neg g1]
  simp -dsimp [go_sem, g1']
  refine (Tryz.strings_HasPrefix p ⟨#[47]⟩ w).mono ?_; rintro _ w1 ⟨rfl, rfl⟩; refine ret_intro ?_
  rw [show (⟨#[47]⟩ : ByteArray).data.toList = [47] from rfl, pre_abs]
  cases ha : isAbs p
  · rw [if_pos rfl]
    simp -dsimp [go_sem]
    exact ⟨Sl.nil _ _ _, Keep.refl _⟩
  rw [if_neg (by decide)]
  simp -dsimp [go_sem]
  have hsl := Lib.splitB_all ⟨#[47]⟩ (by decide) 0 _ p rfl
  have hpl := pcs_length p
  refine (Tryz.strings_Split p ⟨#[47]⟩ m _ (by omega) hm (by decide)).mono ?_
  rw [splitB_pcs] at hsl ⊢
  rw [← hsl]
  rintro _ w2 ⟨rfl, hw2⟩
  refine ret_intro ?_
  obtain ⟨B2, k2, z2⟩ := alloc1s hw2.symm
  generalize hps : pcs p = ps at *
  have h2 : Sl rStr (fun k => w2.heap.size ≤ k) w2 (.slice (some ⟨w1.heap.size, 0, none⟩) ps.length ps.length) ps := Sl.of_blk B2 (by have := blk_lt B2; omega) (by simpa using Cs.strs ps) rfl (by unfold maxLen; omega)
  simp -dsimp [go_sem]
  refine loop_intro (σ := Nat × Value) (fun t => [t.2, .int .i64 t.1]) (fun t w' => t.1 ≤ ps.length ∧ Keep w2 w' ∧ Ow rStr 9 (fun _ => True) w' t.2 (okP (ps.take t.1)) ∧ chkP (ps.take t.1) = 0 ∧ ∀ g, ownB t.2 = some g → w2.heap.size ≤ g) (fun t => ps.length - t.1) (0, .slice none 0 0) (by simp -dsimp [go_sem]; rfl) (by simp -dsimp [go_sem]) ⟨by simp, Keep.refl w2, by simpa [okP] using Ow.nil _ _ _ _, by simp [chkP], by simp [ownB]⟩ ?_
  rintro ⟨i, u⟩ w3 ⟨hi, k3, o3, hc3, b3⟩
  simp only at hi o3 b3 hc3
  obtain ⟨ua, uc, rfl, -⟩ := o3.slice
  simp -dsimp [go_sem]
  by_cases y1 : i < ps.length
  rotate_left
  · obtain rfl : i = ps.length := by omega
    rw [List.take_length] at o3 hc3
    rw [if_pos hc3]
    simp -dsimp [go_sem, Nat.lt_irrefl]
    exact ⟨(o3.all flat_str (Y := fun _ => False)).sl (fun _ _ q => q), Keep.trans k2 k3⟩
  have hx : ps[i]? = some ps[i] := List.getElem?_eq_getElem _
  generalize ps[i] = x at hx
  have y2 : (i : Int) < ps.length := by omega
  obtain ⟨b, off, c', e, hb, -, hc⟩ := (h2.step k3 (fun _ q => q.elim)).str hx
  cases e
  rw [Nat.zero_add] at hc
  by_cases y3 : x.size = 0
  · have y4 : x = ⟨#[]⟩ := ByteArray.size_eq_zero_iff.1 y3
    subst y4
    simp -dsimp [go_sem, y1, y2, hb, hc]
    try simp -dsimp (disch := omega) only [IntWalk.i64_in, IntWalk.u64_in, IntWalk.u8_in]
    have hz := okP_take hx
    rw [if_pos y3] at hz
    have hc4 := chkP_take hx hc3
    rw [if_pos y3] at hc4
    rw [← hz] at o3 b3 ⊢
    exact back_intro (i + 1, .slice ua (okP (ps.take (i + 1))).length uc) (by simp -dsimp [go_sem]) (by simp -dsimp [go_sem]) ⟨by omega, k3, o3, hc4, b3⟩ (by simp only; omega)
  have y4 : ¬ x = ⟨#[]⟩ := fun q => y3 (by rw [q]; rfl)
  simp -dsimp [go_sem, y1, y2, hb, hc, y4]
  refine (name_Check x w3).mono ?_; rintro _ w4 ⟨rfl, rfl⟩; refine ret_intro ?_
  by_cases y5 : nameC x = 0
  rotate_left
  · rw [if_neg (by rw [chkP_stop hx hc3 y3 y5]; exact y5), chkP_stop hx hc3 y3 y5]
    simp -dsimp [go_sem, y5]
    exact ⟨Sl.nil _ _ _, Keep.trans k2 k3⟩
  simp -dsimp [go_sem, y5]
  generalize hW : w3.alloc _ = w4
  obtain ⟨X4, k4, z4⟩ := alloc1s hW
  clear hW
  refine app_str X4 (o3.keep k4) (by have : (okP (ps.take i)).length ≤ (ps.take i).length := List.length_filter_le _ _; rw [List.length_take] at this; omega) ?_
  intro v5 w5 o5 s5 b5
  have hz := okP_take hx
  rw [if_neg y3] at hz
  have hc4 := chkP_take hx hc3
  rw [if_neg y3, y5] at hc4
  rw [← hz] at o5
  obtain ⟨va, vc, rfl, -⟩ := o5.slice
  have l3 := k3.size
  have k5 : Keep w2 w5 := Step.keep (Keep.trans k3 k4) s5 (fun j q => b3 j q)
  simp -dsimp [go_sem]
  try simp -dsimp (disch := omega) only [IntWalk.i64_in, IntWalk.u64_in, IntWalk.u8_in]
  exact back_intro (i + 1, .slice va (okP (ps.take (i + 1))).length vc) (by simp -dsimp [go_sem]) (by simp -dsimp [go_sem]) ⟨by omega, k5, o5, hc4, fun g hg => by rcases (b5 g hg).1 with q | q; exact b3 g q; omega⟩ (by simp only; omega)
theorem ref_Split (p : ByteArray) (hp : p.size < 2 ^ 62) (w : World) :
    Calls Tryz.prog 43 #[.string p] w fun e w' => ∃ v, e = .returned (.tuple #[v, .int .i64 (splitP p).2]) ∧ Sl rStr (fun _ => False) w' v (splitP p).1 ∧ Keep w w' := by
  refine calls_rx h43 Tryz.func43 rfl Tryz.mixed (by kernel_rfl) Tryz.results43 ?_
  simp -dsimp [go_sem]
  by_cases g1 : 120 < p.size
  · have g1' : (120 : Int) < p.size := by omega
    unfold splitP
    rw [if_pos g1]
    simp -dsimp [go_sem, g1']
    exact ⟨Sl.nil _ _ _, Keep.refl w⟩
  have g1' : ¬ (120 : Int) < p.size := by omega
  simp -dsimp [go_sem, g1']
  by_cases e0 : p = ⟨#[]⟩
  · have : splitP p = ([], 22) := by rw [e0]; rfl
    rw [this]
    simp -dsimp [go_sem, e0]
    exact ⟨Sl.nil _ _ _, Keep.refl w⟩
  have c0 : 0 < p.size := Nat.pos_of_ne_zero (fun q => e0 (ByteArray.size_eq_zero_iff.1 q))
  have hget : p.data.toList[0]? = some p[0] := by rw [List.getElem?_eq_getElem (by simpa using c0)]; rfl
  have hab : isAbs p = decide (p[0] = 47) := by
    unfold isAbs
    cases hl : p.data.toList with
    | nil => rw [hl] at hget; simp at hget
    | cons b r => rw [hl] at hget; simp at hget; rw [hget]
  generalize hsb : p[0] = b at hget hab
  by_cases d1 : b = 47
  rotate_left
  · have d1' : ¬ (b.toNat : Int) = 47 := fun q => d1 (by apply UInt8.toNat.inj; simpa using (by omega : b.toNat = 47))
    have : splitP p = ([], 22) := by unfold splitP; rw [if_neg g1, if_pos (by rw [hab]; simp [d1])]
    rw [this]
    simp -dsimp [go_sem, e0, c0, hsb, d1']
    exact ⟨Sl.nil _ _ _, Keep.refl w⟩
  subst d1
  have ha : isAbs p = true := by rw [hab]; rfl
  rw [split_tls g1 ha]
  simp -dsimp [go_sem, e0, c0, hsb]
  refine loop_intro (σ := Nat × Nat × Value) (fun t => [t.2.2, .int .i64 t.2.1, .int .i64 t.1]) (fun t w' => 1 ≤ t.1 ∧ t.1 ≤ p.size + 1 ∧ t.2.1 ≤ t.1 ∧ Keep w w' ∧ ∃ D, Ow rStr 9 (fun _ => True) w' t.2.2 (okP D) ∧ D.length ≤ t.1 ∧ chkP D = 0 ∧ (∀ g, ownB t.2.2 = some g → w.heap.size ≤ g) ∧ (t.1 ≤ p.size → tls p = D ++ (cutB (p.data.toList.drop t.2.1)).map (fun x => ⟨x.toArray⟩) ∧ (47 : UInt8) ∉ (p.data.toList.drop t.2.1).take (t.1 - t.2.1)) ∧ (t.1 = p.size + 1 → tls p = D)) (fun t => p.size + 1 - t.1) (1, 1, .slice none 0 0) (by simp -dsimp [go_sem]; rfl) (by simp -dsimp [go_sem]) ⟨by omega, by simp only; omega, by simp only; omega, Keep.refl w, [], by simpa [okP] using Ow.nil _ _ _ _, by simp, by simp [chkP], by simp [ownB], fun _ => ⟨by simp [tls], by simp⟩, fun q => by simp only at q; omega⟩ ?_
  rintro ⟨i, f, u⟩ w3 ⟨hi1, hi2, hf, k3, D, o3, hDl, hD, b3, h3, h4⟩
  simp only at hi1 hi2 hf o3 hDl b3 h3 h4
  obtain ⟨ua, uc, rfl, -⟩ := o3.slice
  have e1 : IntKind.i64.wrap (i : Int) = (i : Int) := IntWalk.i64_in _ (by omega)
  simp -dsimp [go_sem, e1]
  by_cases y1 : i ≤ p.size
  rotate_left
  · have := h4 (by omega)
    rw [this, if_pos hD]
    simp -dsimp [go_sem, y1]
    exact ⟨(o3.all flat_str (Y := fun _ => False)).sl (fun _ _ q => q), k3⟩
  obtain ⟨h5, h6⟩ := h3 y1
  have hlen : p.data.toList.length = p.size := by simp
  have ei : IntKind.i64.wrap ((i : Int) + 1) = ((i + 1 : Nat) : Int) := IntWalk.i64_in _ (by omega)
  by_cases yc : ∃ c, p.data.toList[i]? = some c ∧ c ≠ 47
  · obtain ⟨c, hc, hc47⟩ := yc
    have hil : i < p.size := by rw [← hlen]; exact (List.getElem?_eq_some_iff.1 hc).1
    have hpc : p[i] = c := by
      have := (List.getElem?_eq_some_iff.1 hc).2
      rw [← this]; rfl
    have hc' : ¬ (c.toNat : Int) = 47 := fun q => hc47 (by apply UInt8.toNat.inj; simpa using (by omega : c.toNat = 47))
    simp -dsimp [go_sem, y1, hil, hpc, hc', ei]
    exact back_intro (i + 1, f, .slice ua (okP D).length uc) (by simp -dsimp [go_sem]) (by simp -dsimp [go_sem]) ⟨by omega, by simp only; omega, by simp only; omega, k3, D, o3, by simp only; omega, hD, b3, fun _ => ⟨h5, no_next hf hc hc47 h6⟩, fun q => by simp only at q; omega⟩ (by simp only; omega)
  obtain ⟨R, hR, hRe, hRm⟩ : ∃ R, tls p = D ++ p.extract f i :: R ∧ (i = p.size → R = []) ∧ (i < p.size → R = (cutB (p.data.toList.drop (i + 1))).map (fun x => ⟨x.toArray⟩)) := by
    by_cases hil : i < p.size
    · have hg : p.data.toList[i]? = some p[i] := by rw [List.getElem?_eq_getElem (by rw [hlen]; exact hil)]; rfl
      have h47 : p.data.toList[i]? = some 47 := by
        rw [hg]
        by_cases q : p[i] = 47
        · rw [q]
        · exact absurd ⟨_, hg, q⟩ yc
      refine ⟨_, ?_, fun q => by omega, fun _ => rfl⟩
      rw [h5, cut_mid hf h47 h6, List.map_cons, ext_mk]
    · obtain rfl : i = p.size := by omega
      refine ⟨[], ?_, fun _ => rfl, fun q => absurd q hil⟩
      rw [← hlen] at h6 hf
      rw [h5, cut_end hf h6, List.map_cons, List.map_nil, ext_mk, hlen]
  by_cases hil : i < p.size
  · have h47 : p[i] = 47 := by
      by_cases q : p[i] = 47
      · exact q
      · exact absurd ⟨p[i], by rw [List.getElem?_eq_getElem (by rw [hlen]; exact hil)]; rfl, q⟩ yc
    by_cases y6 : f < i
    rotate_left
    · obtain rfl : f = i := by omega
      have hx0 : (p.extract f f).size = 0 := by rw [ByteArray.size_extract]; omega
      have y7 : ¬ (f : Int) < f := by omega
      simp -dsimp [go_sem, y1, hil, h47, ei, Nat.lt_irrefl]
      try simp -dsimp (disch := omega) only [IntWalk.i64_in, IntWalk.u64_in, IntWalk.u8_in]
      have hokD : okP (D ++ [p.extract f f]) = okP D := by rw [okP_app, okP_one0 hx0, List.append_nil]
      have hchD : chkP (D ++ [p.extract f f]) = 0 := by rw [chkP_app, if_pos hD, chkP, if_pos hx0, chkP]
      rw [← hokD] at o3 b3 ⊢
      exact back_intro (f + 1, f + 1, .slice ua (okP (D ++ [p.extract f f])).length uc) (by simp -dsimp [go_sem]) (by simp -dsimp [go_sem]) ⟨by omega, by simp only; omega, by simp only; omega, k3, D ++ [p.extract f f], o3, by rw [List.length_append]; simp only [List.length_singleton]; omega, hchD, b3, fun q => ⟨by rw [hR, List.append_assoc, hRm (by simp only at q; omega)]; rfl, by simp⟩, fun q => by rw [hR, hRe (by simp only at q; omega)]⟩ (by simp only; omega)
    have hxs : ¬ (p.extract f i).size = 0 := by rw [ByteArray.size_extract]; omega
    have y7 : (f : Int) < i := by omega
    have y8 : (f : Int) ≤ i := by omega
    have y9 : (i : Int) ≤ p.size := by omega
    simp -dsimp [go_sem, y1, hil, h47, ei, y6, y7, y8, y9, hf, y1]
    generalize hxe : p.extract f i = x at *
    refine (ref_Name x (by rw [← hxe, ByteArray.size_extract]; omega) w3).mono ?_; rintro _ w4 ⟨rfl, rfl⟩; refine ret_intro ?_
    by_cases y5 : nameC x = 0
    rotate_left
    · have : chkP (tls p) = nameC x := by rw [hR, chkP_app, if_pos hD, chkP, if_neg hxs, if_neg y5]
      rw [this, if_neg y5]
      simp -dsimp [go_sem, y5]
      exact ⟨Sl.nil _ _ _, k3⟩
    simp -dsimp [go_sem, y5, y1, hil, h47, ei, y6, y7, y8, y9, hf, y1]
    simp only [hxe]
    generalize hW : w3.alloc _ = w4
    obtain ⟨X4, k4, z4⟩ := alloc1s hW
    clear hW
    refine app_str X4 (o3.keep k4) (by have : (okP D).length ≤ D.length := List.length_filter_le _ _; omega) ?_
    intro v5 w5 o5 s5 b5
    have hokD : okP (D ++ [x]) = okP D ++ [x] := by rw [okP_app, okP_one1 hxs]
    have hchD : chkP (D ++ [x]) = 0 := by rw [chkP_app, if_pos hD, chkP, if_neg hxs, if_pos y5, chkP]
    rw [← hokD] at o5
    obtain ⟨va, vc, rfl, -⟩ := o5.slice
    have l3 := k3.size
    have k5 : Keep w w5 := Step.keep (Keep.trans k3 k4) s5 (fun j q => b3 j q)
    simp -dsimp [go_sem, ei]
    try simp -dsimp (disch := omega) only [IntWalk.i64_in, IntWalk.u64_in, IntWalk.u8_in]
    exact back_intro (i + 1, i + 1, .slice va (okP (D ++ [x])).length vc) (by simp -dsimp [go_sem]) (by simp -dsimp [go_sem]) ⟨by omega, by simp only; omega, by simp only; omega, k5, D ++ [x], o5, by rw [List.length_append]; simp only [List.length_singleton]; omega, hchD, fun g hg => by rcases (b5 g hg).1 with q | q; exact b3 g q; omega, fun q => ⟨by rw [hR, List.append_assoc, hRm (by simp only at q; omega)]; rfl, by simp⟩, fun q => by rw [hR, hRe (by simp only at q; omega)]⟩ (by simp only; omega)
  · have hil' : ¬ (i : Int) < p.size := by omega
    by_cases y6 : f < i
    rotate_left
    · obtain rfl : f = i := by omega
      have hx0 : (p.extract f f).size = 0 := by rw [ByteArray.size_extract]; omega
      have y7 : ¬ (f : Int) < f := by omega
      simp -dsimp [go_sem, y1, hil, hil', ei, Nat.lt_irrefl]
      try simp -dsimp (disch := omega) only [IntWalk.i64_in, IntWalk.u64_in, IntWalk.u8_in]
      have hokD : okP (D ++ [p.extract f f]) = okP D := by rw [okP_app, okP_one0 hx0, List.append_nil]
      have hchD : chkP (D ++ [p.extract f f]) = 0 := by rw [chkP_app, if_pos hD, chkP, if_pos hx0, chkP]
      rw [← hokD] at o3 b3 ⊢
      exact back_intro (f + 1, f + 1, .slice ua (okP (D ++ [p.extract f f])).length uc) (by simp -dsimp [go_sem]) (by simp -dsimp [go_sem]) ⟨by omega, by simp only; omega, by simp only; omega, k3, D ++ [p.extract f f], o3, by rw [List.length_append]; simp only [List.length_singleton]; omega, hchD, b3, fun q => ⟨by rw [hR, List.append_assoc, hRm (by simp only at q; omega)]; rfl, by simp⟩, fun q => by rw [hR, hRe (by simp only at q; omega)]⟩ (by simp only; omega)
    have hxs : ¬ (p.extract f i).size = 0 := by rw [ByteArray.size_extract]; omega
    have y7 : (f : Int) < i := by omega
    have y8 : (f : Int) ≤ i := by omega
    have y9 : (i : Int) ≤ p.size := by omega
    simp -dsimp [go_sem, y1, hil, hil', ei, y6, y7, y8, y9, hf, y1]
    generalize hxe : p.extract f i = x at *
    refine (ref_Name x (by rw [← hxe, ByteArray.size_extract]; omega) w3).mono ?_; rintro _ w4 ⟨rfl, rfl⟩; refine ret_intro ?_
    by_cases y5 : nameC x = 0
    rotate_left
    · have : chkP (tls p) = nameC x := by rw [hR, chkP_app, if_pos hD, chkP, if_neg hxs, if_neg y5]
      rw [this, if_neg y5]
      simp -dsimp [go_sem, y5]
      exact ⟨Sl.nil _ _ _, k3⟩
    simp -dsimp [go_sem, y5, y1, hil, hil', ei, y6, y7, y8, y9, hf, y1]
    simp only [hxe]
    generalize hW : w3.alloc _ = w4
    obtain ⟨X4, k4, z4⟩ := alloc1s hW
    clear hW
    refine app_str X4 (o3.keep k4) (by have : (okP D).length ≤ D.length := List.length_filter_le _ _; omega) ?_
    intro v5 w5 o5 s5 b5
    have hokD : okP (D ++ [x]) = okP D ++ [x] := by rw [okP_app, okP_one1 hxs]
    have hchD : chkP (D ++ [x]) = 0 := by rw [chkP_app, if_pos hD, chkP, if_neg hxs, if_pos y5, chkP]
    rw [← hokD] at o5
    obtain ⟨va, vc, rfl, -⟩ := o5.slice
    have l3 := k3.size
    have k5 : Keep w w5 := Step.keep (Keep.trans k3 k4) s5 (fun j q => b3 j q)
    simp -dsimp [go_sem, ei]
    try simp -dsimp (disch := omega) only [IntWalk.i64_in, IntWalk.u64_in, IntWalk.u8_in]
    exact back_intro (i + 1, i + 1, .slice va (okP (D ++ [x])).length vc) (by simp -dsimp [go_sem]) (by simp -dsimp [go_sem]) ⟨by omega, by simp only; omega, by simp only; omega, k5, D ++ [x], o5, by rw [List.length_append]; simp only [List.length_singleton]; omega, hchD, fun g hg => by rcases (b5 g hg).1 with q | q; exact b3 g q; omega, fun q => ⟨by rw [hR, List.append_assoc, hRm (by simp only at q; omega)]; rfl, by simp⟩, fun q => by rw [hR, hRe (by simp only at q; omega)]⟩ (by simp only; omega)
end Go.Proofs.YtdfjfagljngciaaGreatDoor
