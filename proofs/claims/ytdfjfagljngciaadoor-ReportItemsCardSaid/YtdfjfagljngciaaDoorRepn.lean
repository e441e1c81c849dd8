/- Any item, and any effect, as a line: the walk of the law. -/
import Derived.Test.YtdfjfagljngciaaDoorRepl
set_option linter.all false
set_option pp.deepTerms true
set_option pp.maxSteps 100000000
namespace Go.Proofs.YtdfjfagljngciaaDoor
open Go.RowKit Rx

theorem numL_len8 (name : List UInt8) (h : name.length ≤ 8) (n : Int) (hn : I64 n) : (numL name n).length ≤ 40 := by have := numL_len name n hn; omega
theorem partL_len8 (name : List UInt8) (h : name.length ≤ 8) (s : List UInt8) : (partL name s).length ≤ s.length + 10 := by have := partL_len name s; omega
theorem dec_zero (n : Int) : dec n = [48] ↔ n = 0 := by
  constructor
  · intro h
    rw [dec_eq] at h
    by_cases hn : n < 0
    · rw [if_pos hn] at h; simp at h
    · rw [if_neg hn, List.nil_append, Lib.decDigits] at h
      by_cases h10 : n.natAbs < 10
      · rw [dif_pos h10] at h
        simp only [List.cons.injEq, and_true] at h
        have := congrArg UInt8.toNat h
        rw [UInt8.toNat_ofNat'] at this
        simp at this
        omega
      · rw [dif_neg h10] at h
        have hl := congrArg List.length h
        rw [List.length_append] at hl
        have : 0 < (Lib.decDigits (n.natAbs / 10)).length := by rw [Lib.decDigits]; split <;> simp
        rw [List.length_singleton, List.length_singleton] at hl
        omega
  · rintro rfl
    rw [dec_eq]; simp [Lib.decDigits]
theorem law_part_dec (name : List UInt8) (n : Int) (hn : I64 n) (h1 : name.length ≤ 100) (n1 : name ≠ [112, 97, 116, 104]) (n2 : name ≠ [111, 116, 104, 101, 114]) (n3 : name ≠ [110, 97, 109, 101]) (w : World) :
    Calls Tryd.prog 13 #[.string (txt name), .string (txt (dec n))] w fun e w' => e = .returned (.string (txt (numL name n))) ∧ w = w' := by
  have := dec_len n hn
  have hp := law_part_num name (dec n) h1 (by omega) n1 n2 n3 w
  have he : (if dec n = [48] then [] else partL name (dec n)) = numL name n := by
    unfold numL
    by_cases h : n = 0
    · rw [if_pos h, if_pos ((dec_zero n).2 h)]
    · rw [if_neg h, if_neg (fun q => h ((dec_zero n).1 q))]
  rw [he] at hp
  exact hp
set_option maxRecDepth 100000 in
set_option maxHeartbeats 40000000 in
theorem report_items_law (v : Value) (l : List Item) (x : Effect) (cs : List Value) (w : World) (hT : Tab w) (h : Sl rItem (fun _ => False) w v l) (hx : rEffect.R (fun _ => False) w x cs) :
    Calls Tryd.prog 3 #[v, .agg cs.toArray] w fun e w' => e = .returned (.bool true) ∧ Keep w w' := by
  obtain ⟨d, rfl, hd, hok0⟩ := hx
  obtain ⟨j0, j1, j2, j3, j4, j5⟩ := id hok0
  obtain ⟨a, c, rfl, -⟩ := id h
  unfold Effect.enc
  refine calls_rx h3 Tryd.func3 rfl Tryd.mixed (by kernel_rfl) Tryd.results3 ?_
  simp -dsimp [go_sem]
  refine (awake43 _ (hT.keep (keep_alloc _ _))).mono ?_; rintro e w1 ⟨rfl, k1⟩; refine ret_intro ?_
  have k01 := Keep.trans (keep_alloc w (Obj.cells (x.enc d).toArray 25)) k1
  have E1 := k1.blk (heap_alloc_new w (Obj.cells (x.enc d).toArray 25)) (fun q => q)
  unfold Effect.enc at E1
  have C1 := blk_cell E1
  have L1 := blk_lt E1
  simp -dsimp [go_sem, C1, L1]
  refine (few23 _ l _ (h.keep k01)).mono ?_; rintro e w2 ⟨b, rfl, hb, k2⟩; refine ret_intro ?_
  have k02 := Keep.trans k01 k2
  cases b with
  | false =>
    simp -dsimp [go_sem]
    exact k02
  | true =>
  obtain ⟨hl30, hsm⟩ := hb rfl
  have E2 := k2.blk E1 (fun q => q)
  have C2 := blk_cell E2
  have L2 := blk_lt E2
  obtain ⟨da, dc, rfl, -⟩ := id hd
  simp -dsimp [go_sem, C2, L2]
  have hd2 := (hd.keep k02)
  refine (few09 _ [x] _ (Sl.one (heap_alloc_new w2 _) id ⟨_, rfl, hd2.keep (keep_alloc w2 _), hok0⟩)).mono ?_; rintro e w3 ⟨b, rfl, hb3, k3⟩; refine ret_intro ?_
  have k03 := Keep.trans (Step.alloc k02 _) k3
  cases b with
  | false =>
    simp -dsimp [go_sem]
    exact k03
  | true =>
  have hsx := (hb3 rfl).2 x (List.mem_singleton_self _)
  obtain ⟨s1, s2, s3⟩ := hsx
  have E3 := k3.blk (blk_alloc E2 _) (fun q => q)
  have C3 := blk_cell E3
  have L3 := blk_lt E3
  simp -dsimp [go_sem, C3, L3]
  refine (law_small _ [x.ino, x.dir, x.to, x.page, x.size] _ (Sl.ints (heap_alloc_new w3 _) id (by simp) (by simp [j1, j2, j3, j4, j5]))).mono ?_; rintro e w4 ⟨⟨b, rfl⟩, k4⟩; refine ret_intro ?_
  have k04 := Keep.trans (Step.alloc k03 _) k4
  cases b with
  | false =>
    simp -dsimp [go_sem]
    exact k04
  | true =>
  have E4 := k4.blk (blk_alloc E3 _) (fun q => q)
  have C4 := blk_cell E4
  have L4 := blk_lt E4
  clear E1 C1 L1 E2 C2 L2 E3 C3 L3
  simp -dsimp [go_sem, C4, L4]
  refine loop_intro (σ := Nat) (fun i => [.string (txt (itemsL (l.take i))), .int .i64 i]) (fun i w' => i ≤ l.length ∧ Keep w4 w' ∧ ∀ y ∈ l.take i, okItem y) (fun i => l.length - i) 0 (by simp -dsimp [go_sem]; rfl) (by simp -dsimp [go_sem, itemsL]) ⟨by simp, Keep.refl _, by simp⟩ ?_
  rintro i w5 ⟨hi, k5, hok⟩
  simp -dsimp [go_sem]
  refine condF_intro (fun g1 => ?_) (fun g1 => ?_)
  · simp at g1
    have hy : l[i]? = some l[i] := List.getElem?_eq_getElem _
    generalize l[i] = y at hy
    have hym := List.mem_of_getElem? hy
    have K5 := Keep.trans k04 k5
    obtain ⟨b, off, c', d, e, hb, -, hoky0, hd', c0, c1, c2, c3, c4⟩ := (h.keep K5).item hy
    obtain ⟨oki, -, oks⟩ := id hoky0
    cases e
    have hd'' := hd'
    obtain ⟨ya, yc, rfl, -⟩ := hd''
    have i2 : (i : Int) < l.length := by omega
    simp -dsimp [go_sem, i2, hb, c0, c1, c2, c3, c4]
    have G5 := heap_alloc_new w5 (Obj.cells #[.string y.path, .int .i64 y.ino, .int .i64 y.kind, .int .i64 y.size, .slice ya y.data.length yc] 32)
    have J5 := heap_alloc_new (w5.alloc (Obj.cells #[.string y.path, .int .i64 y.ino, .int .i64 y.kind, .int .i64 y.size, .slice ya y.data.length yc] 32)) (Obj.cells #[.int .i64 y.ino, .int .i64 y.size] 3)
    have hsz5 : (w5.alloc (Obj.cells #[.string y.path, .int .i64 y.ino, .int .i64 y.kind, .int .i64 y.size, .slice ya y.data.length yc] 32)).heap.size = w5.heap.size + 1 := by simp
    rw [hsz5] at J5
    refine (law_small _ [y.ino, y.size] _ (Sl.ints J5 id (by simp) (by simp [oki, oks]))).mono ?_; rintro e w6 ⟨⟨b, rfl⟩, k6⟩; refine ret_intro ?_
    have k46 := Keep.trans ((k5.alloc _).alloc _) k6
    change Keep w4 w6 at k46
    cases b with
    | false =>
      simp -dsimp [go_sem]
      exact Keep.trans k04 k46
    | true =>
    have G6 := k6.blk (blk_alloc G5 _) (fun q => q)
    generalize hyb : w5.heap.size = yb at G6 ⊢
    have D6 := blk_cell G6
    have M6 := blk_lt G6
    have okp : y.path.size ≤ 200 := (hsm y hym).2
    have hlt := itemsL_len (l.take i) hok
    have hlt2 : (l.take i).length ≤ 30 := by rw [List.length_take]; omega
    simp -dsimp [go_sem, D6, M6]
    refine join_intro (σ := Unit) (fun _ => [.string (txt (if y.kind = 1 then [45] else [63]))]) (fun _ w' => w' = w6) (by simp -dsimp [go_sem]; rfl) ?_ ?_
    · by_cases hk1 : y.kind = 1
      · simp -dsimp [go_sem, D6, M6, hk1]
        exact meet_intro () (by simp -dsimp [go_sem, hk1]) (by simp -dsimp [go_sem]) rfl
      · simp -dsimp [go_sem, D6, M6, hk1]
        exact meet_intro () (by simp -dsimp [go_sem, hk1]) (by simp -dsimp [go_sem]) rfl
    rintro _ w' rfl
    simp -dsimp [go_sem, D6, M6]
    refine join_intro (σ := Unit) (fun _ => [.string (txt (kindL y.kind))]) (fun _ w'' => w'' = w') (by simp -dsimp [go_sem]; rfl) ?_ ?_
    · unfold kindL
      by_cases hk1 : y.kind = 2
      · simp -dsimp [go_sem, D6, M6, hk1]
        exact meet_intro () (by simp -dsimp [go_sem, hk1]) (by simp -dsimp [go_sem]) rfl
      · simp -dsimp [go_sem, D6, M6, hk1]
        exact meet_intro () (by simp -dsimp [go_sem, hk1]) (by simp -dsimp [go_sem]) rfl
    rintro _ w6 rfl
    have hkl : (kindL y.kind).length = 1 := by unfold kindL; repeat' split
                                               all_goals rfl
    generalize hkk : kindL y.kind = kk at hkl ⊢
    have hd1 := dec_len y.ino oki
    have hd2' := dec_len y.size oks
    obtain ⟨yp, hyp⟩ := of_txt y.path
    have hypl : yp.length ≤ 200 := by rw [hyp, txt_size] at okp; exact okp
    have q1 : ¬ 9223372036854775807 < kk.length + 1 := by omega
    have q2 : ¬ 9223372036854775807 < kk.length + 1 + (dec y.ino).length := by omega
    have q3 : ¬ 9223372036854775807 < kk.length + ((dec y.ino).length + 1) + 1 := by omega
    have q4 : ¬ 9223372036854775807 < kk.length + ((dec y.ino).length + 1 + 1) + (dec y.size).length := by omega
    have q5 : ¬ 9223372036854775807 < kk.length + ((dec y.ino).length + ((dec y.size).length + 1) + 1) + 1 := by omega
    have q6 : ¬ 9223372036854775807 < kk.length + ((dec y.ino).length + ((dec y.size).length + 1 + 1) + 1) + yp.length := by omega
    rw [hyp] at D6
    simp -dsimp [go_sem, D6, M6, q1]
    refine (law_decimal y.ino oki _).mono ?_; rintro e w7 ⟨rfl, k7⟩; refine ret_intro ?_
    have k67 := Keep.trans (keep_drew w6) k7
    simp -dsimp [go_sem, D6, M6, q2, q3]
    refine ⟨Keep.agree k67 (Agree.refl _), ?_⟩
    refine (law_decimal y.size oks _).mono ?_; rintro e w8 ⟨rfl, k8⟩; refine ret_intro ?_
    have k68 := Keep.trans k67 k8
    have G8 := k68.blk G6 (fun q => q)
    rw [hyp] at G8
    have D8 := blk_cell G8
    have M8 := blk_lt G8
    simp -dsimp [go_sem, D6, M6, q4, q5, q6]
    refine ⟨Keep.agree k68 (Agree.refl _), ?_⟩
    simp -dsimp [go_sem, D8, M8]
    have k48 := Keep.trans k46 k68
    refine (report_Item (txt yp) y.ino y.kind y.size _ oki oks (by rw [txt_size]; exact hypl) _ (hT.keep (Keep.trans k04 k48))).mono ?_; rintro e w9 ⟨rfl, k9⟩; refine ret_intro ?_
    have hres : (if y.kind = 2 then ([100] : List UInt8) else if y.kind = 1 then [45] else [63]) ++ [32] ++ dec y.ino ++ [32] ++ dec y.size ++ [32] ++ (txt yp).data.toList = kk ++ 32 :: (dec y.ino ++ 32 :: (dec y.size ++ 32 :: yp)) := by
      rw [← hkk, txt_data]; unfold kindL; simp
    have hitem : itemL y = kk ++ 32 :: (dec y.ino ++ 32 :: (dec y.size ++ 32 :: yp)) := by rw [← hres, ← hyp]; rfl
    rw [hres]
    have hoky : okItem y := ⟨oki, oks, okp⟩
    have ht := itemL_len y hoky
    rw [hitem] at ht
    have hnx : itemsL (l.take (i + 1)) = itemsL (l.take i) ++ (itemL y ++ [10]) := by
      unfold itemsL
      rw [List.take_add_one, hy, List.flatMap_append]; simp
    rw [hitem] at hnx
    generalize kk ++ 32 :: (dec y.ino ++ 32 :: (dec y.size ++ 32 :: yp)) = t at ht hnx ⊢
    have q7 : ¬ 9223372036854775807 < t.length + 1 := by omega
    have q8 : ¬ 9223372036854775807 < (itemsL (l.take i)).length + (t.length + 1) := by omega
    simp -dsimp [go_sem, q7, q8]
    try simp -dsimp (disch := omega) only [IntWalk.i64_in, IntWalk.u64_in, IntWalk.u8_in]

    refine back_intro (i + 1) (by simp -dsimp [go_sem, hnx]) (by simp -dsimp [go_sem]) ⟨by omega, Keep.trans k48 k9, fun z hz => ?_⟩ (by omega)
    rw [List.take_add_one, hy] at hz
    rcases List.mem_append.1 hz with hz | hz
    · exact hok z hz
    · simp at hz; subst hz; exact hoky
  · simp at g1
    obtain rfl : i = l.length := by omega
    rw [List.take_length] at hok ⊢
    have E5 := k5.blk E4 (fun q => q)
    have C5 := blk_cell E5
    have L5 := blk_lt E5
    obtain ⟨t6, ht6⟩ := of_txt x.name
    have lt6 : t6.length ≤ 100 := by rw [ht6, txt_size] at s2; exact s2
    rw [ht6] at C5
    obtain ⟨t7, ht7⟩ := of_txt x.other
    have lt7 : t7.length ≤ 100 := by rw [ht7, txt_size] at s3; exact s3
    rw [ht7] at C5
    simp -dsimp [go_sem, C5, L5]
    refine (effect_Word x.kind _).mono ?_; rintro e v1 ⟨rfl, m1⟩; refine ret_intro ?_
    have n1 := Keep.trans (keep_drew w5) m1
    have ha := effW_len x.kind
    generalize hz0 : effW x.kind = a00 at ha ⊢
    simp -dsimp [go_sem, C5, L5]
    refine ⟨Keep.agree n1 (Agree.refl _), ?_⟩
    refine (law_or a00 _).mono ?_; rintro e v2 ⟨rfl, rfl⟩; refine ret_intro ?_
    have ha0 : (if a00 = [] then ([63] : List UInt8) else a00).length ≤ 6 := by
      split
      · simp
      · exact ha
    generalize hz : (if a00 = [] then ([63] : List UInt8) else a00) = a0 at ha0 ⊢
    simp -dsimp [go_sem, C5, L5]
    refine ⟨Keep.agree n1 (Agree.refl _), ?_⟩
    refine (law_decimal x.ino j1 _).mono ?_; rintro e v2 ⟨rfl, m2⟩; refine ret_intro ?_
    have n2 := Keep.trans n1 m2
    simp -dsimp [go_sem]
    refine ⟨Keep.agree n2 (Agree.refl _), ?_⟩
    refine (law_part_dec [105, 110, 111] x.ino j1 (by simp) (by decide) (by decide) (by decide) _).mono ?_; rintro e vx ⟨rfl, rfl⟩; refine ret_intro ?_
    have l1 := numL_len8 [105, 110, 111] (by simp) x.ino j1
    generalize hx1 : numL [105, 110, 111] x.ino = x1 at l1 ⊢
    have q1 : ¬ 9223372036854775807 < a0.length + x1.length := by omega
    simp -dsimp [go_sem, C5, L5, q1]
    refine ⟨Keep.agree n2 (Agree.refl _), ?_⟩
    refine (law_decimal x.dir j2 _).mono ?_; rintro e v3 ⟨rfl, m3⟩; refine ret_intro ?_
    have n3 := Keep.trans n2 m3
    simp -dsimp [go_sem]
    refine ⟨Keep.agree n3 (Agree.refl _), ?_⟩
    refine (law_part_dec [100, 105, 114] x.dir j2 (by simp) (by decide) (by decide) (by decide) _).mono ?_; rintro e vx ⟨rfl, rfl⟩; refine ret_intro ?_
    have l2 := numL_len8 [100, 105, 114] (by simp) x.dir j2
    generalize hx2 : numL [100, 105, 114] x.dir = x2 at l2 ⊢
    have q2 : ¬ 9223372036854775807 < a0.length + x1.length + x2.length := by omega
    simp -dsimp [go_sem, C5, L5, q2]
    refine ⟨Keep.agree n3 (Agree.refl _), ?_⟩
    refine (law_decimal x.to j3 _).mono ?_; rintro e v4 ⟨rfl, m4⟩; refine ret_intro ?_
    have n4 := Keep.trans n3 m4
    simp -dsimp [go_sem]
    refine ⟨Keep.agree n4 (Agree.refl _), ?_⟩
    refine (law_part_dec [116, 111] x.to j3 (by simp) (by decide) (by decide) (by decide) _).mono ?_; rintro e vx ⟨rfl, rfl⟩; refine ret_intro ?_
    have l3 := numL_len8 [116, 111] (by simp) x.to j3
    generalize hx3 : numL [116, 111] x.to = x3 at l3 ⊢
    have q3 : ¬ 9223372036854775807 < a0.length + (x1.length + x2.length) + x3.length := by omega
    simp -dsimp [go_sem, C5, L5, q3]
    refine ⟨Keep.agree n4 (Agree.refl _), ?_⟩
    refine (law_decimal x.page j4 _).mono ?_; rintro e v5 ⟨rfl, m5⟩; refine ret_intro ?_
    have n5 := Keep.trans n4 m5
    simp -dsimp [go_sem]
    refine ⟨Keep.agree n5 (Agree.refl _), ?_⟩
    refine (law_part_dec [112, 97, 103, 101] x.page j4 (by simp) (by decide) (by decide) (by decide) _).mono ?_; rintro e vx ⟨rfl, rfl⟩; refine ret_intro ?_
    have l4 := numL_len8 [112, 97, 103, 101] (by simp) x.page j4
    generalize hx4 : numL [112, 97, 103, 101] x.page = x4 at l4 ⊢
    have q4 : ¬ 9223372036854775807 < a0.length + (x1.length + (x2.length + x3.length)) + x4.length := by omega
    simp -dsimp [go_sem, C5, L5, q4]
    refine ⟨Keep.agree n5 (Agree.refl _), ?_⟩
    refine (law_decimal x.size j5 _).mono ?_; rintro e v6 ⟨rfl, m6⟩; refine ret_intro ?_
    have n6 := Keep.trans n5 m6
    simp -dsimp [go_sem]
    refine ⟨Keep.agree n6 (Agree.refl _), ?_⟩
    refine (law_part_dec [115, 105, 122, 101] x.size j5 (by simp) (by decide) (by decide) (by decide) _).mono ?_; rintro e vx ⟨rfl, rfl⟩; refine ret_intro ?_
    have l5 := numL_len8 [115, 105, 122, 101] (by simp) x.size j5
    generalize hx5 : numL [115, 105, 122, 101] x.size = x5 at l5 ⊢
    have q5 : ¬ 9223372036854775807 < a0.length + (x1.length + (x2.length + (x3.length + x4.length))) + x5.length := by omega
    simp -dsimp [go_sem, C5, L5, q5]
    refine ⟨Keep.agree n6 (Agree.refl _), ?_⟩
    refine (law_part_txt [110, 97, 109, 101] t6 (by simp) (by omega) (by simp) _).mono ?_; rintro e vx ⟨rfl, rfl⟩; refine ret_intro ?_
    have l6 := partL_len8 [110, 97, 109, 101] (by simp) t6
    generalize hx6 : partL [110, 97, 109, 101] t6 = x6 at l6 ⊢
    have q6 : ¬ 9223372036854775807 < a0.length + (x1.length + (x2.length + (x3.length + (x4.length + x5.length)))) + x6.length := by omega
    simp -dsimp [go_sem, C5, L5, q6]
    refine ⟨Keep.agree n6 (Agree.refl _), ?_⟩
    refine (law_part_txt [111, 116, 104, 101, 114] t7 (by simp) (by omega) (by simp) _).mono ?_; rintro e vx ⟨rfl, rfl⟩; refine ret_intro ?_
    have l7 := partL_len8 [111, 116, 104, 101, 114] (by simp) t7
    generalize hx7 : partL [111, 116, 104, 101, 114] t7 = x7 at l7 ⊢
    have q7 : ¬ 9223372036854775807 < a0.length + (x1.length + (x2.length + (x3.length + (x4.length + (x5.length + x6.length))))) + x7.length := by omega
    simp -dsimp [go_sem, C5, L5, q7]
    refine ⟨Keep.agree n6 (Agree.refl _), ?_⟩
    refine (law_decimal x.data.length ⟨by omega, by omega⟩ _).mono ?_; rintro e v7 ⟨rfl, m7⟩; refine ret_intro ?_
    have n7 := Keep.trans n6 m7
    simp -dsimp [go_sem]
    refine ⟨Keep.agree n7 (Agree.refl _), ?_⟩
    refine (law_part_dec [98, 121, 116, 101, 115] x.data.length ⟨by omega, by omega⟩ (by simp) (by decide) (by decide) (by decide) _).mono ?_; rintro e vx ⟨rfl, rfl⟩; refine ret_intro ?_
    have l8 := numL_len8 [98, 121, 116, 101, 115] (by simp) x.data.length ⟨by omega, by omega⟩
    generalize hx8 : numL [98, 121, 116, 101, 115] x.data.length = x8 at l8 ⊢
    have q8 : ¬ 9223372036854775807 < a0.length + (x1.length + (x2.length + (x3.length + (x4.length + (x5.length + (x6.length + x7.length)))))) + x8.length := by omega
    simp -dsimp [go_sem, q8]
    refine ⟨Keep.agree n7 (Agree.refl _), ?_⟩
    have KN := Keep.trans k04 (Keep.trans k5 n7)
    refine (report_Items _ l _ (hT.keep KN) (h.keep KN) hl30 hok).mono ?_; rintro e u1 ⟨rfl, p1⟩; refine ret_intro ?_
    have E9 := p1.blk (n7.blk E5 (fun q => q)) (fun q => q)
    have C9 := blk_cell E9
    have L9 := blk_lt E9
    rw [ht6, ht7] at C9
    simp -dsimp [go_sem, C9, L9]
    have KM := Keep.trans KN p1
    have hE := report_Effect x da dc u1 (hT.keep KM) j1 j2 j3 j4 j5 s2 s3 s1
    have hEq : effL x = a0 ++ (x1 ++ (x2 ++ (x3 ++ (x4 ++ (x5 ++ (x6 ++ (x7 ++ x8))))))) := by
      unfold effL orL
      rw [ht6, ht7, txt_data, txt_data, hz0, hz, hx1, hx2, hx3, hx4, hx5, hx6, hx7, hx8]
      simp only [List.append_assoc]
    rw [hEq] at hE
    unfold Effect.enc at hE
    rw [ht6, ht7] at hE
    refine hE.mono ?_; rintro e u2 ⟨rfl, p2⟩; refine ret_intro ?_
    simp -dsimp [go_sem]

    exact Keep.trans KM p2
end Go.Proofs.YtdfjfagljngciaaDoor
