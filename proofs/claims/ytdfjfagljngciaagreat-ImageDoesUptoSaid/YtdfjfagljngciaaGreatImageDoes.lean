/- 'sumplaw18.ImageDoes' answers true, of arguments of bulk at most 1048576, and what it is asked reads as it did; the words of any node. -/
import Derived.Test.YtdfjfagljngciaaGreatIoa
import Derived.Test.YtdfjfagljngciaaGreatRim
import Derived.Test.YtdfjfagljngciaaGreatDone
import Derived.Test.YtdfjfagljngciaaGreatBlk
import Derived.Test.YtdfjfagljngciaaGreatRow
set_option linter.all false
set_option maxRecDepth 100000
set_option maxHeartbeats 4000000
namespace Go.Proofs.YtdfjfagljngciaaGreat
open Go.RowKit Rx Go.MapKept

theorem nodeW_any {n : Node} (hp : n.pages.length ≤ 2 ^ 20) (hn : n.names.length ≤ 2 ^ 16) (hnm : ∀ x ∈ n.names, x.name.size ≤ 2 ^ 20) : (nodeW n).length ≤ 2 ^ 38 := by
  have h6 : ∀ (L : List Entry), (∀ x ∈ L, x.name.size ≤ 2 ^ 20) → (L.flatMap nameW).length ≤ L.length * 262144 := by
    intro L
    induction L with
    | nil => simp
    | cons y L ih =>
      intro hL
      have h1 := ih (fun z hz => hL z (List.mem_cons_of_mem _ hz))
      have h2 := hL y (List.mem_cons_self ..)
      have h4 := packL_len y.name.data.toList
      have h5 : y.name.data.toList.length = y.name.size := by simp
      have h3 : (nameW y).length ≤ 262144 := by unfold nameW; rw [List.length_append, List.length_cons, List.length_singleton]; omega
      rw [List.flatMap_cons, List.length_append, List.length_cons]; omega
  have h1 := h6 n.names hnm
  have h2 : n.names.length * 262144 ≤ 2 ^ 16 * 262144 := Nat.mul_le_mul_right _ hn
  unfold nodeW
  rw [List.length_append, List.length_append, List.length_map, List.length_map]
  have h8 : (headN n).length = 7 := rfl
  omega
theorem image_Node (X : Nat → Prop) (n : Node) (cs : List Value) (hp : n.pages.length ≤ 2 ^ 20) (hn : n.names.length ≤ 2 ^ 16) (hnm : ∀ x ∈ n.names, x.name.size ≤ 2 ^ 20) (w : World) (hr : rNode.R (fun _ => False) w n cs) :
    Calls Tryz.prog 34 #[.agg cs.toArray] w fun r w' => ∃ u, r = .returned u ∧ Ow rWord 66 (fun _ => True) w' u (nodeW n) ∧ Keep w w' ∧ ∀ g, ownB u = some g → w.heap.size ≤ g := by
  obtain ⟨p, m, rfl, -⟩ := id hr
  obtain ⟨pa, pc, ma, mc, rfl, rfl⟩ : ∃ pa pc ma mc, p = .slice pa n.pages.length pc ∧ m = .slice ma n.names.length mc := by
    obtain ⟨p', m', e, ⟨a1, c1, e1, -⟩, ⟨a2, c2, e2, -⟩, -⟩ := hr
    unfold Node.enc at e
    simp only [List.cons.injEq, and_true, true_and] at e
    obtain ⟨rfl, rfl⟩ := e
    exact ⟨a1, c1, a2, c2, e1, e2⟩
  have hl := nodeW_any hp hn hnm
  refine calls_rx h34 Tryz.func34 rfl Tryz.mixed (by kernel_rfl) Tryz.results34 ?_
  unfold Node.enc
  unfold Node.enc at hr
  simp -dsimp [go_sem]
  generalize hW : (w.alloc _).alloc _ = W
  obtain ⟨N0, B0, k0, z0⟩ := alloc2 hW
  clear hW
  have hr1 : rNode.R (fun k => k = w.heap.size + 1) W n (n.enc (.slice pa n.pages.length pc) (.slice ma n.names.length mc)) := rNode.keep (rNode.mono hr (fun k hk q => by omega)) k0
  refine (image_put (fun k => k = w.heap.size + 1) n _ (w.heap.size + 1) (.slice none 0 0) [] (by simp) hp hn hnm W ⟨B0, Ow.nil _ _ _ _⟩ hr1 rfl (by simp [ownB])).mono ?_
  rintro _ w1 ⟨⟨u1, rfl⟩, v1, h1, s1, b1⟩
  refine ret_intro ?_
  rw [List.nil_append] at h1
  have k1 : Keep w w1 := Step.keep k0 s1 (fun j q => q.elim (fun q => by omega) (fun q => by simp [ownB] at q))
  simp -dsimp [go_sem]
  refine (writer_Words (w.heap.size + 1) v1 (nodeW n) (by omega) w1 h1).mono ?_
  rintro _ w2 ⟨u2, rfl, o2, k2, b2⟩
  refine ret_intro ?_
  have l1 := k1.size
  try simp -dsimp [go_sem]
  exact ⟨o2, Keep.trans k1 k2, fun g hg => by have := b2 g hg; omega⟩
theorem image_Put_nil (w : World) : Calls Tryz.prog 26 #[.pointer none] w fun r w' => r = .returned (.slice none 0 0) ∧ Keep w w' := by
  refine calls_rx h26 Tryz.func26 rfl Tryz.mixed (by kernel_rfl) Tryz.results26 ?_
  simp -dsimp [go_sem]
  exact Keep.refl w
theorem image_Need (X : Nat → Prop) (b m : Nat) (s : St) (k : Nat) (hg : Good k s) (hk : k ≤ 2 ^ 8) (w : World) (h : StAt w X b m s) :
    Calls Tryz.prog 32 #[.pointer (some ⟨b, 0, none⟩)] w fun r w' => r = .returned (.int .i64 (wordsS s + 1)) ∧ Keep w w' := by
  have hb := words_bd hg (by omega)
  have e1 : IntKind.i64.wrap (wordsS s + 1) = wordsS s + 1 := IntWalk.i64_in _ (by omega)
  refine calls_rx h32 Tryz.func32 rfl Tryz.mixed (by kernel_rfl) Tryz.results32 ?_
  simp -dsimp [go_sem]
  refine (state_Words X b m s k hg (by omega) w h).mono ?_; rintro _ w1 ⟨rfl, k1⟩; refine ret_intro ?_
  simp -dsimp [go_sem, e1]
  exact k1
@[go_sem] def hIdo : Rx.Hints := { plans := [(9, .take 0 (.take 2 (.act 1 (.act 3 (.act 4 (.take 5 (.take 6 (.take 8 (.act 7 (.act 9 (.act 10 (.take 11 (.take 12 (.take 13 (.take 15 (.act 14 (.act 16 (.take 17 (.take 18 (.take 19 (.take 20 (.act 21 (.take 22 (.take 23 (.take 24 (.take 25 .done))))))))))))))))))))))))))], joins := [(7, ⟨[], [5, 7, 8]⟩)] }
theorem image_does_law (v : Value) (l : List Deed16) (v2 : Value) (L : List UInt64) (n : Node) (cs : List Value) (w : World) (hl : Sl rDeed16 (fun _ => False) w v l) (hlen : l.length ≤ 1048576) (hL : Sl rWord (fun _ => False) w v2 L) (hn : rNode.R (fun _ => False) w n cs) (hnm : ∀ x ∈ n.names, x.name.size ≤ 2 ^ 20) :
    Calls Tryz.prog 7 #[v, v2, .agg cs.toArray] w fun r w' => r = .returned (.bool true) ∧ Keep w w' := by
  obtain ⟨a, c, rfl, -⟩ := id hl
  obtain ⟨a2, c2, rfl, -⟩ := id hL
  obtain ⟨p, m, rfl, hp, hm, hok⟩ := id hn
  obtain ⟨pa, pc, rfl, -⟩ := id hp
  obtain ⟨ma, mc, rfl, -⟩ := id hm
  refine calls_rx hIdo Tryz.func7 rfl Tryz.mixed (by kernel_rfl) Tryz.results7 ?_
  unfold Node.enc
  simp -dsimp [go_sem]
  generalize hW : w.alloc _ = W
  obtain ⟨N0, k0, z0⟩ := alloc1 hW
  clear hW
  refine (awake18 W).mono ?_; rintro _ w1 ⟨rfl, k1⟩; refine ret_intro ?_
  have k01 := Keep.trans k0 k1
  simp -dsimp [go_sem]
  refine (few16 _ l w1 (hl.keep k01) (by omega)).mono ?_
  rintro _ w2 ⟨bf, rfl, hbf, k2⟩
  refine ret_intro ?_
  have k02 := Keep.trans k01 k2
  have N2 := k2.blk (k1.blk N0 (fun q => q)) (fun q => q)
  cases bf
  · simp -dsimp [go_sem]
    exact k02
  obtain ⟨hl30, hlf⟩ := hbf rfl
  simp -dsimp [go_sem]
  by_cases y1 : 300 < L.length
  · have y1' : (300 : Int) < L.length := by omega
    simp -dsimp [go_sem, y1, y1']
    exact k02
  have y1' : ¬ (300 : Int) < L.length := by omega
  have N2c := blk_cell N2; have N2f := blk_free N2; have N2l := blk_lt N2
  by_cases y2 : 80 < n.pages.length
  · have y2' : (80 : Int) < n.pages.length := by omega
    simp -dsimp [go_sem, y1, y1', y2, y2', N2c, N2f, N2l]
    exact k02
  have y2' : ¬ (80 : Int) < n.pages.length := by omega
  by_cases y3 : 20 < n.names.length
  · have y3' : (20 : Int) < n.names.length := by omega
    simp -dsimp [go_sem, y1, y1', y2, y2', y3, y3', N2c, N2f, N2l]
    exact k02
  have y3' : ¬ (20 : Int) < n.names.length := by omega
  simp -dsimp [go_sem, y1, y1', y2, y2', y3, y3', N2c, N2f, N2l]
  refine (law_Done l _ w2 (hl.keep k02) hl30 hlf).mono ?_
  rintro _ w4 ⟨b, m, cb, u, rfl, T4, k4⟩
  refine ret_intro ?_
  have k04 := Keep.trans k02 k4
  have hgs := (good_done (l := l) (by omega)).mono (k' := 60) (by omega)
  generalize doneS l = s at T4 hgs
  simp -dsimp [go_sem]
  refine (image_Of_any (fun _ => False) _ L (by omega) w4 (hL.keep (Keep.trans k0 (Keep.trans (Keep.trans k1 k2) k4)))).mono ?_
  intro r5 w5 h5
  obtain ⟨p5, e5, rfl, hcase, k5⟩ : ∃ p5 e5, r5 = .returned (.tuple #[.pointer p5, .int .i64 e5]) ∧ ((p5 = none ∧ e5 = 74) ∨ ∃ t tb tm, p5 = some ⟨tb, 0, none⟩ ∧ e5 = 0 ∧ ofW L = some t ∧ StAt w5 (fun k => k = tb ∨ k = tm) tb tm t) ∧ Keep w4 w5 := by
    rcases h5 with ⟨ho, rfl, k5⟩ | ⟨t, tb, tm, ho, rfl, t5, k5, hb5, hm5⟩
    · exact ⟨_, _, rfl, .inl ⟨rfl, rfl⟩, k5⟩
    · exact ⟨_, _, rfl, .inr ⟨t, tb, tm, rfl, rfl, ho, t5⟩, k5⟩
  clear h5
  refine ret_intro ?_
  simp -dsimp [go_sem]
  refine join_intro (σ := Unit) (fun _ => []) (fun _ w' => Keep w4 w') (by simp -dsimp [go_sem]; rfl) ?_ ?_
  · rcases hcase with ⟨rfl, rfl⟩ | ⟨t, tb, tm, rfl, rfl, ho, t5⟩
    · simp -dsimp [go_sem]
      exact meet_intro () (by simp -dsimp [go_sem]) (by simp -dsimp [go_sem]) k5
    · obtain ⟨hw, -, hgt⟩ := ofW_some ho
      simp -dsimp [go_sem]
      refine (image_Put _ tb tm t 256 (hgt (by omega)) (by omega) w5 t5).mono ?_; rintro _ w6 ⟨pu, rfl, o6, k6, b6⟩; refine ret_intro ?_
      have hL6 : Sl rWord (fun _ => False) w6 (.slice a2 L.length c2) L := hL.keep (Keep.trans k0 (Keep.trans (Keep.trans k1 k2) (Keep.trans k4 (Keep.trans k5 k6))))
      simp -dsimp [go_sem]
      refine (ref_SameWords (fun _ => False) (fun _ => False) _ _ (imageW t) L w6 ((o6.all flat_word).sl (fun _ _ q => q)) hL6).mono ?_; rintro _ w7 ⟨rfl, k7⟩; refine ret_intro ?_
      rw [decide_eq_true hw]
      simp -dsimp [go_sem]
      exact meet_intro () (by simp -dsimp [go_sem]) (by simp -dsimp [go_sem]) (Keep.trans k5 (Keep.trans k6 k7))
  clear hcase k5
  rintro ⟨⟩ w5 k5
  have S5 := (T4.keep k5).st
  have R5 := (T4.keep k5).rt
  simp -dsimp [go_sem]
  have kd := keep_drew w5
  have N5 := (Keep.trans k4 (Keep.trans k5 kd)).blk N2 (fun q => q)
  refine (image_Put _ b m s 60 hgs (by omega) w5.drew (S5.keep kd)).mono ?_
  rintro _ w6 ⟨v1, rfl, o6, k6, b6⟩
  refine ret_intro ?_
  have k56 := Keep.trans kd k6
  refine ⟨Keep.agree k56 (Agree.refl _), ?_⟩
  simp -dsimp [go_sem]
  refine (ref_Image _ cb u s 60 hgs (by omega) w6 (R5.keep k56)).mono ?_
  rintro _ w7 ⟨v2', rfl, o7, k7, b7⟩
  refine ret_intro ?_
  have k57 := Keep.trans k56 k7
  refine ⟨Keep.agree k57 (Agree.refl _), ?_⟩
  simp -dsimp [go_sem]
  refine (ref_SameWords (fun _ => False) (fun _ => False) _ _ (imageW s) (imageW s) w7 (((o6.keep k7).all flat_word).sl (fun _ _ q => q)) ((o7.all flat_word).sl (fun _ _ q => q))).mono ?_; rintro _ w8 ⟨rfl, k8⟩; refine ret_intro ?_
  have k58 := Keep.trans k57 k8
  refine ⟨Keep.agree k58 (Agree.refl _), ?_⟩
  rw [decide_eq_true rfl]
  clear N2c N2f N2l
  have N5' := k5.blk (k4.blk N2 (fun q => q)) (fun q => q)
  have hnn : ∀ w', Keep w w' → rNode.R (fun _ => False) w' n (n.enc (.slice pa n.pages.length pc) (.slice ma n.names.length mc)) := fun w' k => rNode.keep hn k
  have k05 : Keep w w5 := Keep.trans k04 k5
  have N5'c := blk_cell N5'; have N5'f := blk_free N5'; have N5'l := blk_lt N5'
  try simp -dsimp [go_sem, N5'c, N5'f, N5'l]
  refine (image_Node (fun _ => False) n _ (by omega) (by omega) hnm w8 (hnn w8 (Keep.trans k05 k58))).mono ?_
  rintro _ w9 ⟨v3, rfl, o9, k9, b9⟩
  refine ret_intro ?_
  have k59 := Keep.trans k58 k9
  refine ⟨Keep.agree k59 (Agree.refl _), ?_⟩
  try simp -dsimp [go_sem, N5'c, N5'f, N5'l]
  refine (ref_NodeW (fun _ => False) n _ (by omega) (by omega) hnm w9 (hnn w9 (Keep.trans k05 k59))).mono ?_
  rintro _ w10 ⟨v4, rfl, o10, k10, b10⟩
  refine ret_intro ?_
  have k510 := Keep.trans k59 k10
  refine ⟨Keep.agree k510 (Agree.refl _), ?_⟩
  try simp -dsimp [go_sem, N5'c, N5'f, N5'l]
  refine (ref_SameWords (fun _ => False) (fun _ => False) _ _ (nodeW n) (nodeW n) w10 (((o9.keep k10).all flat_word).sl (fun _ _ q => q)) ((o10.all flat_word).sl (fun _ _ q => q))).mono ?_; rintro _ w11 ⟨rfl, k11⟩; refine ret_intro ?_
  have k511 := Keep.trans k510 k11
  refine ⟨Keep.agree k511 (Agree.refl _), ?_⟩
  rw [decide_eq_true rfl]
  try simp -dsimp [go_sem, N5'c, N5'f, N5'l]
  refine (image_Need _ b m s 60 hgs (by omega) w11 (S5.keep k511)).mono ?_; rintro _ w12 ⟨rfl, k12⟩; refine ret_intro ?_
  have k512 := Keep.trans k511 k12
  refine ⟨Keep.agree k512 (Agree.refl _), ?_⟩
  try simp -dsimp [go_sem, N5'c, N5'f, N5'l]
  refine (state_Words _ b m s 60 hgs (by omega) w12 (S5.keep k512)).mono ?_; rintro _ w13 ⟨rfl, k13⟩; refine ret_intro ?_
  have k513 := Keep.trans k512 k13
  refine ⟨Keep.agree k513 (Agree.refl _), ?_⟩
  have hwb := words_bd hgs (by omega)
  have ew : IntKind.i64.wrap (wordsS s + 1) = wordsS s + 1 := IntWalk.i64_in _ (by omega)
  try simp -dsimp [go_sem, N5'c, N5'f, N5'l, ew]
  refine (image_Put_nil w13).mono ?_; rintro _ w14 ⟨rfl, k14⟩; refine ret_intro ?_
  have k514 := Keep.trans k513 k14
  refine ⟨Keep.agree k514 (Agree.refl _), ?_⟩
  try simp -dsimp [go_sem, N5'c, N5'f, N5'l, ew]
  exact Keep.trans k05 k514
end Go.Proofs.YtdfjfagljngciaaGreat
namespace Go.Proofs.YtdfjfagljngciaaGreat
open Go.ChangeShapes Go.WideShapes Go.ChangeAt Go.RowKit Go.Joins Go.Deep

theorem image_does_contract (H : Type) (enc : TypeId × Value → H) (W : World) (base : Nat) (args : Array Value) (ds gs : List (DataW H)) (before : List MemPlace)
    (hval0 : ∀ (j : Nat) t v, Tryz.f7.params[j]? = some t → args[j]? = some v → Value.okWide Tryz.prog W .any base t v)
    (hW : DataW.Whole enc Tryz.prog Tryz.f7.params.toList Rows.imageDoesSpec.vars false W args.toList ds gs before) (hk : Rows.uptoSmall H (ds ++ gs) = true) :
    Calls Tryz.prog 7 args W fun e W' => ∃ v, e = .returned v ∧ Rows.imageDoesSpec.post enc Tryz.prog Tryz.f7 false true false false W args v W' := by
  have hval : ∀ (j : Nat) t v, Tryz.f7.params[j]? = some t → args[j]? = some v → Value.okWide Tryz.prog W .any base t v := hval0
  have hW' := hW
  obtain ⟨p, q, hA0, hV, rfl, hfz, hnd⟩ := hW
  have hA : DataW.TrodAll enc Tryz.prog W 0 (fun _ => true) true Tryz.f7.params.toList args.toList ds p := hA0
  rw [Tryz.params7] at hA hval
  obtain ⟨v0, v1, v2, d0, d1, d2, p0, p1, p2, rfl, rfl, rfl, h0, h1, h2⟩ := trodAll_three hA
  obtain ⟨rfl, rfl⟩ := trodVars_none hV
  have hb : Rows.uptoBulkAll ([d0, d1, d2] ++ ([] : List (DataW H))) ≤ 1048576 := of_decide_eq_true hk
  rw [List.append_nil] at hb
  simp only [Rows.uptoBulkAll] at hb
  obtain ⟨l, hl, hlw⟩ := openW_sl Tryz.underlying22 (by kernel_rfl) (opensW_any opens_Deed16) (hval 0 22 v0 rfl rfl) h0
  obtain ⟨L, hL⟩ := open_sl Tryz.underlying62 (by kernel_rfl) (opens_word Tryz.underlying66) (hval 1 62 v1 rfl rfl) h1
  obtain ⟨n, cs, rfl, hn, hnw⟩ := openW_rec Tryz.underlying42 opensW_Node (hval 2 42 v2 rfl rfl) h2
  rw [sum_one] at hlw
  refine (image_does_law v0 l v1 L n cs W hl (by omega) hL hn (fun x hx => ?_)).mono fun e W' ⟨he, hk⟩ => ?_
  · have q1 : x.name.size + 1 ≤ (n.names.map (fun y => y.name.size + 1)).sum := sum_mem (f := fun y : Entry => y.name.size + 1) hx
    have q2 : (n.names.map (fun y => y.name.size + 1)).sum ≤ Rows.uptoBulk d2 := hnw
    omega
  subst he
  exact ⟨_, rfl, post_keep Tryz.laidOut (by kernel_rfl) rfl hW' rfl rfl Tryz.underlying4 hk.below⟩
theorem imageDoes_lifted (os : Os) (started : os.Started) (H : Type) (enc : TypeId × Value → H) (F : Stop.Interp) :
    ReturnsInHanded {} Tryz.checked os 7 .any ((Rows.OpenSpec.upto Rows.imageDoesSpec).pre6 enc Tryz.prog Tryz.f7 Rows.imageDoesUptoRow.domain false) (((Rows.OpenSpec.upto Rows.imageDoesSpec).at F).post enc Tryz.prog Tryz.f7 false true false false) := by
  refine returnsInHanded_of_cond (C := Tryz.checked) (s := Rows.OpenSpec.upto Rows.imageDoesSpec) (k := Rows.uptoSmall) rfl Tryz.own started (by kernel_rfl) Tryz.func7
    (OpenSpec.witness (enc := enc) (C := Tryz.checked) (s := Rows.OpenSpec.upto Rows.imageDoesSpec) (k := Rows.uptoSmall) rfl false ⟨#[], #[.slice none 0 0, .slice none 0 0, .agg #[.int .i64 0, .int .i64 0, .int .i64 0, .int .i64 0, .int .i64 0, .slice none 0 0, .slice none 0 0]], []⟩ 8 (by kernel_rfl) (by kernel_rfl) (by kernel_rfl)
      (x := ([.nil, .nil, .agg [.lit (.int .i64 0), .lit (.int .i64 0), .lit (.int .i64 0), .lit (.int .i64 0), .lit (.int .i64 0), .nil, .nil]], [], [])) (by kernel_rfl) rfl (by kernel_rfl)) ?_
  intro W base args ds gs before hval hW _ hk _
  exact image_does_contract H enc W base args ds gs before hval hW hk

theorem imageDoes_holds : Rows.ImageDoesUptoSaid :=
  OpenClaim.holds_of_cond 7 Tryz.f7 rfl rfl rfl rfl rfl rfl rfl ⟨rfl, rfl, rfl, rfl, rfl⟩ rfl rfl rfl rfl rfl (by kernel_rfl) Tryz.func7 (by kernel_rfl)
    (of_decide_eq_true (by kernel_rfl)) (by unfold Func.isWrapper; rw [if_neg (by decide +kernel)]; exact ⟨rfl, rfl⟩)
    (fun os started H enc _ F => imageDoes_lifted os started H enc F)
#print axioms imageDoes_holds
end Go.Proofs.YtdfjfagljngciaaGreat
