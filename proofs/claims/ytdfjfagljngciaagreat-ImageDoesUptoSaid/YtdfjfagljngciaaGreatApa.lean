/- States that aren't alike have words that aren't. -/
import Derived.Test.YtdfjfagljngciaaGreatImg
import Derived.Test.YtdfjfagljngciaaGreatSam
import Derived.Test.YtdfjfagljngciaaGreatDone
set_option linter.all false
set_option maxRecDepth 100000
set_option maxHeartbeats 4000000
namespace Go.Proofs.YtdfjfagljngciaaGreat
open Go.RowKit Rx Go.MapKept

theorem ref_SameWords (X Y : Nat → Prop) (v v' : Value) (l l' : List UInt64) (w : World) (h : Sl rWord X w v l) (h' : Sl rWord Y w v' l') :
    Calls Tryz.prog 25 #[v, v'] w fun e w' => e = .returned (.bool (decide (l = l'))) ∧ Keep w w' := by
  obtain ⟨a, c, rfl, -⟩ := id h
  obtain ⟨a', c', rfl, -⟩ := id h'
  have hmx := h.len
  have hmx' := h'.len
  unfold maxLen at hmx hmx'
  refine calls_rx h25 Tryz.func25 rfl Tryz.mixed (by kernel_rfl) Tryz.results25 ?_
  by_cases q2 : l.length = l'.length
  rotate_left
  · have hne : ¬ l = l' := fun q => q2 (by rw [q])
    have q2' : ¬ (l.length : Int) = l'.length := by omega
    simp -dsimp [go_sem, q2, q2', hne]
    exact Keep.refl w
  have q2' : (l.length : Int) = l'.length := by omega
  simp -dsimp [go_sem, q2, q2']
  refine loop_intro (σ := Nat) (fun i => [.int .i64 i]) (fun i w' => i ≤ l'.length ∧ Keep w w' ∧ l.take i = l'.take i) (fun i => l'.length - i) 0 (by simp -dsimp [go_sem]; rfl) (by simp -dsimp [go_sem]) ⟨by simp, Keep.refl w, by simp⟩ ?_
  rintro i w1 ⟨hi, k1, ht⟩
  simp -dsimp [go_sem]
  by_cases g1 : i < l'.length
  rotate_left
  · obtain rfl : i = l'.length := by omega
    rw [List.take_length, ← q2, List.take_length] at ht
    simp -dsimp [go_sem, Nat.lt_irrefl, ht]
    exact k1
  have g2 : i < l.length := by omega
  have hx : l[i]? = some l[i] := List.getElem?_eq_getElem _
  generalize l[i] = x at hx
  have hy : l'[i]? = some l'[i] := List.getElem?_eq_getElem _
  generalize l'[i] = y at hy
  obtain ⟨b, off, c1, e, hb, -, hc⟩ := (h.keep k1).word hx
  cases e
  obtain ⟨b', off', c2, e, hb', -, hc'⟩ := (h'.keep k1).word hy
  cases e
  have i2 : (i : Int) < l'.length := by omega
  have i3 : (i : Int) < l.length := by omega
  by_cases hxy : x = y
  · have hxy' : (x.toNat : Int) = y.toNat := by rw [hxy]
    have ht2 := take_eq_step hx hy ht hxy
    simp -dsimp [go_sem, g1, g2, i2, i3, hb, hc, hb', hc', hxy']
    try simp -dsimp (disch := omega) only [IntWalk.i64_in, IntWalk.u64_in, IntWalk.u8_in]
    exact back_intro (i + 1) (by simp -dsimp [go_sem]) (by simp -dsimp [go_sem]) ⟨by omega, Keep.trans k1 (keep_drew w1), ht2⟩ (by omega)
  · have hxy' : ¬ x.toNat = y.toNat := fun q => hxy (UInt64.toNat_inj.1 q)
    have hxy2 : ¬ (x.toNat : Int) = y.toNat := by omega
    have hne := ne_at hx hy hxy
    simp -dsimp [go_sem, g1, g2, i2, i3, hb, hc, hb', hc', hxy', hxy2, hne]
    exact Keep.trans k1 (keep_drew w1)
/-- Rows of words, one behind the other, each told by its beginning. -/
def Told {α : Type} (f : α → List UInt64) : Prop := ∀ x y r r', f x ++ r = f y ++ r' → x = y ∧ r = r'
theorem told_flat {α : Type} {f : α → List UInt64} {p : α → Prop} (h : ∀ x y r r', p x → p y → f x ++ r = f y ++ r' → x = y ∧ r = r') : ∀ (l l' : List α) (r r' : List UInt64), (∀ x ∈ l, p x) → (∀ x ∈ l', p x) → l.length = l'.length → l.flatMap f ++ r = l'.flatMap f ++ r' → l = l' ∧ r = r'
  | [], [], r, r', _, _, _, h2 => ⟨rfl, by simpa using h2⟩
  | [], _ :: _, _, _, _, _, h1, _ => by simp at h1
  | _ :: _, [], _, _, _, _, h1, _ => by simp at h1
  | x :: l, y :: l', r, r', hp, hp', h1, h2 => by
    rw [List.flatMap_cons, List.flatMap_cons, List.append_assoc, List.append_assoc] at h2
    obtain ⟨e1, e2⟩ := h x y _ _ (hp x (List.mem_cons_self ..)) (hp' y (List.mem_cons_self ..)) h2
    obtain ⟨e3, e4⟩ := told_flat h l l' r r' (fun z hz => hp z (List.mem_cons_of_mem _ hz)) (fun z hz => hp' z (List.mem_cons_of_mem _ hz)) (by simpa using h1) e2
    exact ⟨by rw [e1, e3], e4⟩
theorem leN_inj : ∀ {l l' : List UInt8}, l.length = l'.length → leN l = leN l' → l = l'
  | [], [], _, _ => rfl
  | [], _ :: _, h, _ => by simp at h
  | _ :: _, [], h, _ => by simp at h
  | x :: l, y :: l', h, e => by
    rw [leN, leN] at e
    have hx := x.toNat_lt
    have hy := y.toNat_lt
    have e1 : x.toNat = y.toNat := by omega
    have e2 : leN l = leN l' := by omega
    rw [UInt8.toNat_inj.1 e1, leN_inj (by simpa using h) e2]
theorem chunks_inj {l l' : List UInt8} (hl : l.length = l'.length) (h : ∀ j, chunkL l j = chunkL l' j) : l = l' := by
  apply List.ext_getElem?
  intro i
  have h1 := congrArg (fun c => c[i % 8]?) (h (i / 8))
  simp only [chunkL, List.getElem?_take, List.getElem?_drop] at h1
  rw [if_pos (Nat.mod_lt _ (by decide)), if_pos (Nat.mod_lt _ (by decide)), show 8 * (i / 8) + i % 8 = i from Nat.div_add_mod i 8] at h1
  exact h1
theorem packL_inj {l l' : List UInt8} (hl : l.length = l'.length) (h : packL l = packL l') : l = l' := by
  refine chunks_inj hl (fun j => ?_)
  by_cases hj : j < (l.length + 7) / 8
  · have h1 := congrArg (fun c => c[j]?) h
    simp only [packL_at hj, packL_at (hl ▸ hj : j < (l'.length + 7) / 8), Option.some.injEq] at h1
    have h2 := congrArg UInt64.toNat h1
    rw [UInt64.toNat_ofNat', UInt64.toNat_ofNat', Nat.mod_eq_of_lt (chunk_lt l j), Nat.mod_eq_of_lt (chunk_lt l' j)] at h2
    exact leN_inj (by unfold chunkL; rw [List.length_take, List.length_drop, List.length_take, List.length_drop, hl]) h2
  · unfold chunkL
    rw [List.drop_eq_nil_of_le (by omega), List.drop_eq_nil_of_le (by omega)]
theorem app_eq {α : Type} {a b c d : List α} (h : a ++ b = c ++ d) (hl : a.length = c.length) : a = c ∧ b = d := List.append_inj h hl
theorem nameW_told {x y : Entry} {r r' : List UInt64} (hx : x.name.size ≤ 24 ∧ x.ok) (hy : y.name.size ≤ 24 ∧ y.ok) (h : nameW x ++ r = nameW y ++ r') : x = y ∧ r = r' := by
  unfold nameW at h
  simp only [List.cons_append, List.cons.injEq, List.append_assoc] at h
  obtain ⟨h1, h2⟩ := h
  have h3 := congrArg UInt64.toNat h1
  rw [UInt64.toNat_ofNat', UInt64.toNat_ofNat', Nat.mod_eq_of_lt (by omega), Nat.mod_eq_of_lt (by omega)] at h3
  have hsx : x.name.data.toList.length = x.name.size := by simp
  have hsy : y.name.data.toList.length = y.name.size := by simp
  obtain ⟨h4, h5⟩ := app_eq h2 (by rw [packL_len, packL_len, hsx, hsy, h3])
  have h6 := packL_inj (by rw [hsx, hsy, h3]) h4
  simp only [List.singleton_append, List.cons.injEq] at h5
  have h7 := u64I_inj hx.2 hy.2 h5.1
  refine ⟨?_, h5.2⟩
  cases x; cases y
  simp only [Entry.mk.injEq]
  exact ⟨ByteArray.ext (Array.toList_inj.1 h6), h7⟩
theorem ints_told : ∀ {l l' : List Int}, (∀ x ∈ l, I64 x) → (∀ x ∈ l', I64 x) → l.map u64I = l'.map u64I → l = l'
  | [], [], _, _, _ => rfl
  | [], _ :: _, _, _, h => by simp at h
  | _ :: _, [], _, _, h => by simp at h
  | x :: l, y :: l', h1, h2, h => by
    simp only [List.map_cons, List.cons.injEq] at h
    rw [u64I_inj (h1 x (List.mem_cons_self ..)) (h2 y (List.mem_cons_self ..)) h.1, ints_told (fun z hz => h1 z (List.mem_cons_of_mem _ hz)) (fun z hz => h2 z (List.mem_cons_of_mem _ hz)) h.2]
/-- What a node is like whose words tell it. -/
def Node.fits (n : Node) : Prop := n.ok ∧ (∀ x ∈ n.pages, I64 x) ∧ (∀ x ∈ n.names, x.name.size ≤ 24 ∧ x.ok) ∧ n.pages.length ≤ 2 ^ 40 ∧ n.names.length ≤ 2 ^ 40
theorem nodeW_told {a b : Node} {r r' : List UInt64} (ha : a.fits) (hb : b.fits) (h : nodeW a ++ r = nodeW b ++ r') : a = b ∧ r = r' := by
  obtain ⟨⟨a1, a2, a3, a4, a5⟩, a6, a7, a8, a9⟩ := ha
  obtain ⟨⟨b1, b2, b3, b4, b5⟩, b6, b7, b8, b9⟩ := hb
  unfold nodeW at h
  rw [List.append_assoc, List.append_assoc, List.append_assoc, List.append_assoc] at h
  obtain ⟨h1, h2⟩ := app_eq h (by rw [List.length_map, List.length_map]; rfl)
  have hh := ints_told (l := headN a) (l' := headN b) (by intro x hx; simp [headN] at hx; rcases hx with rfl | rfl | rfl | rfl | rfl | rfl | rfl <;> first | assumption | (unfold I64; omega)) (by intro x hx; simp [headN] at hx; rcases hx with rfl | rfl | rfl | rfl | rfl | rfl | rfl <;> first | assumption | (unfold I64; omega)) h1
  simp only [headN, List.cons.injEq, and_true] at hh
  obtain ⟨e1, e2, e3, e4, e5, e6, e7⟩ := hh
  obtain ⟨h3, h4⟩ := app_eq h2 (by rw [List.length_map, List.length_map]; omega)
  have h5 := ints_told a6 b6 h3
  obtain ⟨h6, h7⟩ := told_flat (p := fun x => x.name.size ≤ 24 ∧ x.ok) (fun x y r r' hx hy => nameW_told hx hy) a.names b.names r r' a7 b7 (by omega) h4
  exact ⟨node_ext e1 e2 e3 e4 e5 h5 h6, h7⟩
theorem image_told {s t : St} (hs : I64 s.last) (ht : I64 t.last) (hls : s.L.length ≤ 2 ^ 40) (hlt : t.L.length ≤ 2 ^ 40) (h1 : ∀ n ∈ s.L, n.fits) (h2 : ∀ n ∈ t.L, n.fits) : imageW s = imageW t ↔ s.last = t.last ∧ s.L = t.L := by
  constructor
  · intro h
    unfold imageW at h
    obtain ⟨h3, -⟩ := List.append_inj' h (by rw [List.length_singleton, List.length_singleton])
    unfold bodyW at h3
    simp only [List.cons.injEq] at h3
    obtain ⟨e1, e2, e3⟩ := h3
    have e4 := u64I_inj (a := (s.L.length : Int)) (b := (t.L.length : Int)) (by unfold I64; omega) (by unfold I64; omega) e2
    have := told_flat (p := Node.fits) (fun x y r r' hx hy => nodeW_told hx hy) s.L t.L [] [] h1 h2 (by omega) (by simpa using e3)
    exact ⟨u64I_inj hs ht e1, this.1⟩
  · rintro ⟨e1, e2⟩
    obtain ⟨L, last⟩ := s
    obtain ⟨L', last'⟩ := t
    simp only at e1 e2
    rw [e1, e2]
theorem rep_fits {X : Nat → Prop} {w : World} {n : Node} {cs : List Value} (h : rNode.R X w n cs) {k : Nat} (hk : NodeOk k n) (hkk : k ≤ 2 ^ 19) : n.fits := by
  obtain ⟨p, m, rfl, hp, hm, hok⟩ := h
  refine ⟨hok, fun x hx => ?_, fun x hx => ⟨(hk.nm x hx).1, ?_⟩, Nat.le_trans hk.pg (by decide), Nat.le_trans hk.len (by omega)⟩
  · obtain ⟨i, hi⟩ := List.mem_iff_getElem?.1 hx
    obtain ⟨_, _, _, _, _, _, _, q⟩ := hp.int hi
    exact q
  · obtain ⟨i, hi⟩ := List.mem_iff_getElem?.1 hx
    obtain ⟨_, _, _, _, _, _, q, _⟩ := hm.entry hi
    exact q
theorem StAt.fits {X : Nat → Prop} {w : World} {b m : Nat} {s : St} (h : StAt w X b m s) {k : Nat} (hg : Good k s) (hk : k ≤ 2 ^ 19) : ∀ n ∈ s.L, n.fits := fun n hn => by
  obtain ⟨es, c, -, -, he⟩ := h.hm
  obtain ⟨x, -, -, cs, -, hr⟩ := he.2 n hn
  exact rep_fits hr (hg.ok n hn) hk
theorem cs_words {X : Nat → Prop} {w : World} : ∀ (l : List UInt64), Cs rWord X w l (l.map (fun x => Value.int .u64 x.toNat))
  | [] => Cs.nil
  | x :: l => Cs.cons (cs := [.int .u64 x.toNat]) rfl (cs_words l)
theorem body0 : bodyW st0 = [1, 1, 1, 2, 1, 0, 1, 0, 0] := by
  have h0 : u64I 0 = 0 := by unfold u64I; simp
  have h1 : u64I 1 = 1 := by unfold u64I; simp
  have h2 : u64I 2 = 2 := by unfold u64I; simp
  simp [bodyW, st0, nodeW, headN, h0, h1, h2]
theorem awake18 (w : World) : Calls Tryz.prog 24 #[] w fun r w' => r = .returned (.bool true) ∧ Keep w w' := by
  refine calls_rx h24 Tryz.func24 rfl Tryz.mixed (by kernel_rfl) Tryz.results24 ?_
  simp -dsimp [go_sem]
  refine (state_New (fun _ => False) w (fun _ q => q.elim)).mono ?_; rintro _ w1 ⟨b, m, rfl, h1, k1, hb1, hm1⟩; refine ret_intro ?_
  simp -dsimp [go_sem]
  refine (image_Put _ b m st0 0 good_st0 (by omega) w1 h1).mono ?_
  rintro _ w2 ⟨u, rfl, o2, k2, b2⟩
  obtain ⟨ua, uc, rfl, hc1, hc2⟩ := o2.slice
  have him : imageW st0 = [1, 1, 1, 2, 1, 0, 1, 0, 0] ++ [sumL (bodyW st0)] := by unfold imageW; rw [body0]
  generalize sumL (bodyW st0) = sm at him
  rw [him] at o2 hc1 ⊢
  have hc1' : 10 ≤ uc := hc1
  change Ow _ _ _ _ (.slice ua 10 uc) _ at o2
  obtain ⟨a', c', e', -, -, o3, -⟩ := o2.cut (i := 0) (m := 9) (by omega) (by simp)
  simp only [Value.slice.injEq] at e'
  obtain ⟨rfl, -, rfl⟩ := e'
  rw [sliced_zero] at o3
  change Ow _ _ _ _ (.slice ua 9 uc) [1, 1, 1, 2, 1, 0, 1, 0, 0] at o3
  have hc9 : (9 : Int) ≤ uc := by omega
  have hc9' : 9 ≤ uc := by omega
  change Ret _ (.returned (.slice ua 10 uc)) w2
  refine ret_intro ?_
  simp -dsimp [go_sem, hc9, hc9']
  generalize hW : w2.alloc _ = w3
  obtain ⟨C3, k3, z3⟩ := alloc1 hW
  clear hW
  have hsl : Sl rWord (fun _ => False) w3 (.slice (some ⟨w2.heap.size, 0, none⟩) 9 9) [1, 1, 1, 2, 1, 0, 1, 0, 0] := Sl.of_blk (r := rWord) C3 id (cs_words [1, 1, 1, 2, 1, 0, 1, 0, 0]) rfl (by unfold maxLen; omega)
  refine (ref_SameWords (fun _ => False) (fun _ => False) _ _ [1, 1, 1, 2, 1, 0, 1, 0, 0] [1, 1, 1, 2, 1, 0, 1, 0, 0] w3 (((o3.keep k3).all flat_word).sl (fun _ _ q => q)) hsl).mono ?_; rintro _ w4 ⟨rfl, k4⟩; refine ret_intro ?_
  simp -dsimp [go_sem]
  exact Keep.trans k1 (Keep.trans k2 (Keep.trans k3 k4))
theorem image_apart_law (v v' : Value) (l l' : List Deed16) (w : World) (hl : Sl rDeed16 (fun _ => False) w v l) (hl' : Sl rDeed16 (fun _ => False) w v' l') (hlen : l.length * 112 ≤ 140737488351232) (hlen' : l'.length * 112 ≤ 140737488351232) :
    Calls Tryz.prog 5 #[v, v'] w fun r w' => r = .returned (.bool true) ∧ Keep w w' := by
  obtain ⟨a, c, rfl, -⟩ := id hl
  obtain ⟨a', c', rfl, -⟩ := id hl'
  refine calls_rx h5 Tryz.func5 rfl Tryz.mixed (by kernel_rfl) Tryz.results5 ?_
  simp -dsimp [go_sem]
  refine (awake18 w).mono ?_; rintro _ w1 ⟨rfl, k1⟩; refine ret_intro ?_
  simp -dsimp [go_sem]
  refine (few16 _ l w1 (hl.keep k1) (by omega)).mono ?_
  rintro _ w2 ⟨bf, rfl, hbf, k2⟩
  refine ret_intro ?_
  have k02 := Keep.trans k1 k2
  cases bf
  · simp -dsimp [go_sem]
    exact k02
  obtain ⟨hl30, hlf⟩ := hbf rfl
  simp -dsimp [go_sem]
  refine (few16 _ l' w2 (hl'.keep k02) (by omega)).mono ?_
  rintro _ w3 ⟨bf, rfl, hbf2, k3⟩
  refine ret_intro ?_
  have k03 := Keep.trans k02 k3
  cases bf
  · simp -dsimp [go_sem]
    exact k03
  obtain ⟨hl30', hlf'⟩ := hbf2 rfl
  simp -dsimp [go_sem]
  refine (law_Done l _ w3 (hl.keep k03) hl30 hlf).mono ?_
  rintro _ w4 ⟨b, m, cb, u, rfl, T4, k4⟩
  refine ret_intro ?_
  have k04 := Keep.trans k03 k4
  simp -dsimp [go_sem]
  refine (law_Done l' _ w4 (hl'.keep k04) hl30' hlf').mono ?_
  rintro _ w5 ⟨b', m', cb', u', rfl, T5, k5⟩
  refine ret_intro ?_
  have k05 := Keep.trans k04 k5
  have hgs := (good_done (l := l) (by omega)).mono (k' := 60) (by omega)
  have hgt := (good_done (l := l') (by omega)).mono (k' := 60) (by omega)
  generalize doneS l = s at T4 hgs
  generalize doneS l' = t at T5 hgt
  have S5 := (T4.keep k5).st
  have R5 := (T4.keep k5).rt
  have S5' := T5.st
  have R5' := T5.rt
  simp -dsimp [go_sem]
  refine (image_Put _ b m s 60 hgs (by omega) w5 S5).mono ?_
  rintro _ w6 ⟨v1, rfl, o6, k6, b6⟩
  refine ret_intro ?_
  simp -dsimp [go_sem]
  refine (image_Put _ b' m' t 60 hgt (by omega) w6 (S5'.keep k6)).mono ?_
  rintro _ w7 ⟨v2, rfl, o7, k7, b7⟩
  refine ret_intro ?_
  have k57 := Keep.trans k6 k7
  simp -dsimp [go_sem]
  refine (ref_SameWords (fun _ => False) (fun _ => False) _ _ (imageW s) (imageW t) w7 (((o6.keep k7).all flat_word).sl (fun _ _ q => q)) ((o7.all flat_word).sl (fun _ _ q => q))).mono ?_; rintro _ w8 ⟨rfl, k8⟩; refine ret_intro ?_
  have k58 := Keep.trans k57 k8
  simp -dsimp [go_sem]
  refine (ref_Same _ _ cb cb' u u' s t (Nat.le_trans hgs.len (by omega)) (Nat.le_trans hgt.len (by omega)) w8 (R5.keep k58) (R5'.keep k58)).mono ?_; rintro _ w9 ⟨rfl, k9⟩; refine ret_intro ?_
  have hs1 := hgs.l0
  have hs2 := hgs.l1
  have ht1 := hgt.l0
  have ht2 := hgt.l1
  have hiff := image_told (s := s) (t := t) (by unfold I64; omega) (by unfold I64; omega) (Nat.le_trans hgs.len (by omega)) (Nat.le_trans hgt.len (by omega)) (S5.fits hgs (by omega)) (S5'.fits hgt (by omega))
  have hdec : decide (imageW s = imageW t) = decide (s.last = t.last ∧ s.L = t.L) := by rw [Bool.eq_iff_iff]; simp only [decide_eq_true_eq]; exact hiff
  rw [hdec]
  generalize decide (s.last = t.last ∧ s.L = t.L) = dd
  simp -dsimp [go_sem]
  exact Keep.trans k05 (Keep.trans k58 k9)
end Go.Proofs.YtdfjfagljngciaaGreat
