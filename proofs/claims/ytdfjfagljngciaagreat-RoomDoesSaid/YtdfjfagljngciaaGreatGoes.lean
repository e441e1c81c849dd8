/- What fits still fits when something goes, or is made smaller. -/
import Derived.Test.YtdfjfagljngciaaGreatDone
set_option linter.all false
set_option maxRecDepth 100000
set_option maxHeartbeats 4000000
namespace Go.Proofs.YtdfjfagljngciaaGreat
open Go.RowKit Rx Go.MapKept

def drop9 : Effect := ⟨8, 9, 0, 0, 0, 0, ⟨#[]⟩, ⟨#[]⟩, []⟩
theorem fits64 : fitsS (geomS 64) st0 = true := by decide
theorem try64 : tryS (geomS 64) st0 [drop9] 1099511627776 false = 93 := by decide
theorem sl_drop9 {V : World} {g : Nat} (hb : V.heap[g]? = some (.cells #[.int .i64 8, .int .i64 9, .int .i64 0, .int .i64 0, .int .i64 0, .int .i64 0, .string ⟨#[]⟩, .string ⟨#[]⟩, .slice none 0 0] 25 (0, 0))) : Sl rEffect (fun _ => False) V (.slice (some ⟨g, 0, none⟩) 1 1) [drop9] :=
  Sl.of_blk (r := rEffect) hb id (Cs.one (r := rEffect) (x := drop9) (cs := drop9.enc (.slice none 0 0)) ⟨_, rfl, Sl.nil _ _ _, by unfold Effect.ok drop9 I64; simp⟩) rfl (by unfold maxLen; omega)
theorem awake17 (w : World) : Calls Tryz.prog 8 #[] w fun r w' => r = .returned (.bool true) ∧ Keep w w' := by
  refine calls_rx h8 Tryz.func8 rfl Tryz.mixed (by kernel_rfl) Tryz.results8 ?_
  simp -dsimp [go_sem]
  refine (ref_Geom 64 w).mono ?_; rintro _ w1 ⟨rfl, k1⟩; refine ret_intro ?_
  have hsm := geomS_small 64
  generalize hG : geomS 64 = G at hsm
  have f64 := fits64
  have t64 := try64
  rw [hG] at f64 t64
  unfold Geom.enc
  simp -dsimp [go_sem]
  generalize hW : w1.alloc _ = W
  obtain ⟨G0, k0, z0⟩ := alloc1 hW
  clear hW
  have k01 := Keep.trans k1 k0
  refine (state_New (fun _ => False) W.drew (fun _ q => q.elim)).mono ?_; rintro _ w2 ⟨b, m, rfl, h2, k2, hb2, hm2⟩; refine ret_intro ?_
  have k02 := Keep.trans (keep_drew W) k2
  refine ⟨Keep.agree k02 (Agree.refl _), ?_⟩
  have G0c := blk_cell G0; have G0f := blk_free G0; have G0l := blk_lt G0
  simp -dsimp [go_sem, G0c, G0f, G0l]
  refine (room_Fits _ b m st0 0 good_st0 (by omega) G hsm w2 h2).mono ?_; rintro _ w3 ⟨rfl, k3⟩; refine ret_intro ?_
  have k03 := Keep.trans k02 k3
  rw [f64]
  refine ⟨Keep.agree k03 (Agree.refl _), ?_⟩
  simp -dsimp [go_sem, G0c, G0f, G0l]
  refine ⟨?_, Keep.agree (k03.alloc _) (Agree.refl _), ?_⟩
  · refine (state_New (fun _ => False) w3 (fun _ q => q.elim)).mono ?_; rintro _ w4 ⟨b', m', rfl, h4, k4, hb4, hm4⟩; refine ret_intro ?_
    have k04 := Keep.trans k03 k4
    refine ⟨Keep.agree k04 (Agree.refl _), ?_⟩
    simp -dsimp [go_sem, G0c, G0f, G0l]
    generalize hW : w4.alloc _ = w5
    obtain ⟨X5, k5, z5⟩ := alloc1 hW
    clear hW
    have k05 := Keep.trans k04 k5
    refine ⟨Keep.agree k05 (Agree.refl _), ?_⟩
    refine (room_Try _ b' m' st0 0 good_st0 G hsm _ [drop9] (by simp) w5 (sl_drop9 X5) (h4.keep k5)).mono ?_; rintro _ w6 ⟨rfl, k6⟩; refine ret_intro ?_
    have k06 := Keep.trans k05 k6
    rw [t64]
    refine ⟨Keep.agree k06 (Agree.refl _), ?_⟩
    simp -dsimp [go_sem, G0c, G0f, G0l]
    exact Keep.trans k01 k06
  · generalize hW : w3.alloc _ = w4
    obtain ⟨X4, k4, z4⟩ := alloc1 hW
    clear hW
    have k04 := Keep.trans k03 k4
    refine (state_New (fun _ => False) w4 (fun _ q => q.elim)).mono ?_; rintro _ w5 ⟨b', m', rfl, h5, k5, hb5, hm5⟩; refine ret_intro ?_
    have k05 := Keep.trans k04 k5
    refine ⟨Keep.agree k05 (Agree.refl _), ?_⟩
    try simp -dsimp [go_sem, G0c, G0f, G0l]
    refine (room_Try _ b' m' st0 0 good_st0 G hsm _ [drop9] (by simp) w5 (sl_drop9 (k5.blk X4 (fun q => q))) h5).mono ?_; rintro _ w6 ⟨rfl, k6⟩; refine ret_intro ?_
    have k06 := Keep.trans k05 k6
    rw [t64]
    refine ⟨Keep.agree k06 (Agree.refl _), ?_⟩
    simp -dsimp [go_sem, G0c, G0f, G0l]
    exact Keep.trans k01 k06
/-- Whether an effect lets something go, or makes it smaller. -/
def goesB (e : Effect) (n : Node) : Bool := decide (e.kind = 3) || decide (e.kind = 4) || decide (e.kind = 8) || (decide (e.kind = 6) && decide (e.size ≤ n.size))
theorem room_goes_law (pages : Int) (v : Value) (l : List Deed16) (d : Deed16) (cs : List Value) (w : World) (hl : Sl rDeed16 (fun _ => False) w v l) (hd : rDeed16.R (fun _ => False) w d cs) (hlen : l.length * 112 ≤ 140737488351232) :
    Calls Tryz.prog 3 #[.int .i64 pages, v, .agg cs.toArray] w fun r w' => r = .returned (.bool true) ∧ Keep w w' := by
  obtain ⟨dd, rfl, hdd, hdok⟩ := id hd
  obtain ⟨da, dc, rfl, -⟩ := id hdd
  obtain ⟨a, c, rfl, -⟩ := id hl
  refine calls_rx h3 Tryz.func3 rfl Tryz.mixed (by kernel_rfl) Tryz.results3 ?_
  unfold Deed16.enc
  simp -dsimp [go_sem]
  generalize hW : w.alloc _ = W
  obtain ⟨D0, k0, z0⟩ := alloc1 hW
  clear hW
  refine (awake17 W).mono ?_; rintro _ w1 ⟨rfl, k1⟩; refine ret_intro ?_
  have k01 := Keep.trans k0 k1
  have D1 := k1.blk D0 (fun q => q)
  simp -dsimp [go_sem]
  refine (few16 _ l w1 (hl.keep k01) (by omega)).mono ?_
  rintro _ w2 ⟨bf, rfl, hbf, k2⟩
  refine ret_intro ?_
  have k02 := Keep.trans k01 k2
  have D2 := k2.blk D1 (fun q => q)
  cases bf
  · simp -dsimp [go_sem]
    exact k02
  obtain ⟨hl30, hlf⟩ := hbf rfl
  have D2c := blk_cell D2; have D2f := blk_free D2; have D2l := blk_lt D2
  simp -dsimp [go_sem, D2c, D2f, D2l]
  generalize hW : w2.alloc _ = w3
  obtain ⟨X3, k3, z3⟩ := alloc1 hW
  clear hW
  have k03 := Keep.trans k02 k3
  refine (few16 _ [d] w3 (Sl.of_blk (r := rDeed16) X3 id (Cs.one (r := rDeed16) (cs := d.enc (.slice da d.e.data.length dc)) (rDeed16.keep hd k03)) rfl (by show 1 ≤ maxLen; unfold maxLen; omega)) (by simp)).mono ?_
  rintro _ w4 ⟨bf, rfl, hbf2, k4⟩
  refine ret_intro ?_
  have k04 := Keep.trans k03 k4
  have D4 := (Keep.trans k3 k4).blk D2 (fun q => q)
  clear D2c D2f D2l
  cases bf
  · simp -dsimp [go_sem]
    exact k04
  simp -dsimp [go_sem]
  refine (ref_Geom pages w4).mono ?_; rintro _ w5 ⟨rfl, k5⟩; refine ret_intro ?_
  have hsm := geomS_small pages
  generalize geomS pages = G at hsm ⊢
  generalize geomB pages = gb
  unfold Geom.enc
  simp -dsimp [go_sem]
  generalize hW : w5.alloc _ = w6
  obtain ⟨G6, k6, z6⟩ := alloc1 hW
  clear hW
  have k06 := Keep.trans k04 (Keep.trans k5 k6)
  have D6 := (Keep.trans k5 k6).blk D4 (fun q => q)
  refine (law_Done l _ w6 (hl.keep k06) hl30 hlf).mono ?_
  rintro _ w7 ⟨b, m, cb, u, rfl, T7, k7⟩
  refine ret_intro ?_
  have k07 := Keep.trans k06 k7
  have D7 := k7.blk D6 (fun q => q)
  have G7 := k7.blk G6 (fun q => q)
  have hgd := good_done (l := l) (by omega)
  generalize doneS l = s at T7 hgd
  have hgd := hgd.mono (k' := 60) (by omega)
  have S7 := T7.st
  have lo : w6.heap.size ≤ b ∧ w6.heap.size ≤ m := ⟨T7.bb, T7.bm⟩
  cases gb
  · simp -dsimp [go_sem]
    exact k07
  have D7c := blk_cell D7; have D7f := blk_free D7; have D7l := blk_lt D7; have G7c := blk_cell G7; have G7f := blk_free G7; have G7l := blk_lt G7
  simp -dsimp [go_sem, D7c, D7f, D7l, G7c, G7f, G7l]
  refine (room_Fits _ b m s 60 hgd (by omega) G hsm w7 S7).mono ?_; rintro _ w8 ⟨rfl, k8⟩; refine ret_intro ?_
  have S8 := S7.keep k8
  have D8 := k8.blk D7 (fun q => q)
  have G8 := k8.blk G7 (fun q => q)
  clear D7c D7f D7l G7c G7f G7l
  have k08 := Keep.trans k07 k8
  cases hF : fitsS G s
  · simp -dsimp [go_sem]
    exact k08
  have D8c := blk_cell D8; have D8f := blk_free D8; have D8l := blk_lt D8; have G8c := blk_cell G8; have G8f := blk_free G8; have G8l := blk_lt G8
  simp -dsimp [go_sem, D8c, D8f, D8l, G8c, G8f, G8l]
  have hfi := hgd.fine (by omega)
  refine (state_Get _ b m s hfi.d d.e.ino hfi.sz w8 S8).mono ?_; rintro _ w9 ⟨p, q, rfl, n9, k9⟩; refine ret_intro ?_
  have hnd : (getL s.L d.e.ino).getD node0 = dirN s d.e.ino := rfl
  rw [hnd] at n9 ⊢
  obtain ⟨pa, pc, ma, mc, rfl, rfl, -⟩ := n9.slices
  generalize hN : dirN s d.e.ino = nd at n9 ⊢
  unfold Node.enc
  simp -dsimp [go_sem]
  generalize hW : w9.alloc _ = w10
  obtain ⟨N10, k10, z10⟩ := alloc1 hW
  clear hW
  have k810 := Keep.trans k9 k10
  have S10 := S8.keep k810
  have D10 := k810.blk D8 (fun q => q)
  have G10 := k810.blk G8 (fun q => q)
  have k010 := Keep.trans k08 k810
  clear D8c D8f D8l G8c G8f G8l
  have D10c := blk_cell D10; have D10f := blk_free D10; have D10l := blk_lt D10; have G10c := blk_cell G10; have G10f := blk_free G10; have G10l := blk_lt G10; have N10c := blk_cell N10; have N10f := blk_free N10; have N10l := blk_lt N10
  refine join_intro (σ := Unit) (fun _ => [.bool (goesB d.e nd)]) (fun _ w' => w10 = w') (by simp -dsimp [go_sem]; rfl) ?_ ?_
  · unfold goesB
    by_cases q3 : d.e.kind = 3
    · have d3 : decide (d.e.kind = 3) = true := decide_eq_true q3
      simp -dsimp [go_sem, D10c, D10f, D10l, N10c, N10f, N10l, d3]
      exact meet_intro () (by simp -dsimp [go_sem, d3]) (by simp -dsimp [go_sem]) rfl
    by_cases q4 : d.e.kind = 4
    · have d4 : decide (d.e.kind = 4) = true := decide_eq_true q4
      simp -dsimp [go_sem, D10c, D10f, D10l, N10c, N10f, N10l, q3, d4]
      exact meet_intro () (by simp -dsimp [go_sem, q3, d4]) (by simp -dsimp [go_sem]) rfl
    by_cases q8 : d.e.kind = 8
    · have d8 : decide (d.e.kind = 8) = true := decide_eq_true q8
      simp -dsimp [go_sem, D10c, D10f, D10l, N10c, N10f, N10l, q3, q4, d8]
      exact meet_intro () (by simp -dsimp [go_sem, q3, q4, d8]) (by simp -dsimp [go_sem]) rfl
    by_cases q6 : d.e.kind = 6
    · have d6 : decide (d.e.kind = 6) = true := decide_eq_true q6
      simp -dsimp [go_sem, D10c, D10f, D10l, N10c, N10f, N10l, q3, q4, q8, d6]
      exact meet_intro () (by simp -dsimp [go_sem, q3, q4, q8, d6]) (by simp -dsimp [go_sem]) rfl
    · simp -dsimp [go_sem, D10c, D10f, D10l, N10c, N10f, N10l, q3, q4, q8, q6]
      exact meet_intro () (by simp -dsimp [go_sem, q3, q4, q8, q6]) (by simp -dsimp [go_sem]) rfl
  rintro _ _ rfl
  simp -dsimp [go_sem, D10c, D10f, D10l, G10c, G10f, G10l, N10c, N10f, N10l]
  refine (room_Left _ b m s 60 hgd (by omega) G hsm w10 S10).mono ?_; rintro _ w11 ⟨rfl, k11⟩; refine ret_intro ?_
  have S11 := S10.keep k11
  have D11 := k11.blk D10 (fun q => q)
  have G11 := k11.blk G10 (fun q => q)
  have k011 := Keep.trans k010 k11
  clear D10c D10f D10l G10c G10f G10l N10c N10f N10l
  have D11c := blk_cell D11; have D11f := blk_free D11; have D11l := blk_lt D11; have G11c := blk_cell G11; have G11f := blk_free G11; have G11l := blk_lt G11
  simp -dsimp [go_sem, D11c, D11f, D11l, G11c, G11f, G11l]
  refine (state_Apply _ b m s hfi (hgd.names (by omega)) d.e hdok.1 0 ⟨by decide, by decide⟩ da dc w11 S11).mono ?_
  rintro _ w12 ⟨gv, rfl, -, S12, s12, -⟩
  refine ret_intro ?_
  have k012 : Keep w w12 := Step.keep k011 s12 (fun j q => by have := k06.size; omega)
  have hbm := S7.size_b
  have G12 := s12.blk G11 (fun q => by have := k6.size; omega)
  cases hgo : goesB d.e nd
  · rcases applyS_err s d.e 0 with he | he | he
    all_goals
      rw [he]
      simp -dsimp [go_sem]
      exact k012
  rcases applyS_err s d.e 0 with he | he | he
  rotate_left
  · rw [he]
    simp -dsimp [go_sem]
    exact k012
  · rw [he]
    simp -dsimp [go_sem]
    exact k012
  have hgd2 := good_apply hgd (by omega) d.e 0
  have hless : leftW G s ≤ leftW G (applyS s d.e 0).1 ∧ leftP G s ≤ leftP G (applyS s d.e 0).1 := by
    unfold applyS at he ⊢
    split at he
    · rename_i hE
      rw [if_pos hE]
      cases hD : doesS s d.e 0 with
      | none => rw [hD] at he; simp at he
      | some R =>
        obtain ⟨t, gl⟩ := R
        have hk : d.e.kind = 3 ∨ d.e.kind = 4 ∨ d.e.kind = 8 ∨ (d.e.kind = 6 ∧ d.e.size ≤ (dirN s d.e.ino).size) := by
          rw [hN]
          unfold goesB at hgo
          simpa [or_assoc] using hgo
        have hl := goes_less hgd hE hD hk
        have e1 := refs_sum t.L
        have e2 := refs_sum s.L
        show leftW G s ≤ leftW G t ∧ leftP G s ≤ leftP G t
        unfold leftW leftP wordsS refsS
        omega
    · simp at he
  have hF2 : fitsS G (applyS s d.e 0).1 = true := by
    unfold fitsS at hF ⊢
    simp only [Bool.and_eq_true, decide_eq_true_eq] at hF ⊢
    omega
  rw [he]
  generalize (applyS s d.e 0).1 = t at S12 hgd2 hless hF2
  clear G11c G11f G11l D11c D11f D11l
  have G12c := blk_cell G12; have G12f := blk_free G12; have G12l := blk_lt G12
  simp -dsimp [go_sem, G12c, G12f, G12l]
  refine (room_Left _ b m t 62 hgd2 (by omega) G hsm w12 S12).mono ?_; rintro _ w13 ⟨rfl, k13⟩; refine ret_intro ?_
  have G13 := k13.blk G12 (fun q => q)
  clear G12c G12f G12l
  have G13c := blk_cell G13; have G13f := blk_free G13; have G13l := blk_lt G13
  simp -dsimp [go_sem, G13c, G13f, G13l]
  refine (room_Fits _ b m t 62 hgd2 (by omega) G hsm w13 (S12.keep k13)).mono ?_; rintro _ w14 ⟨rfl, k14⟩; refine ret_intro ?_
  rw [hF2]
  simp -dsimp [go_sem, hless.1, hless.2]
  exact Keep.trans k012 (Keep.trans k13 k14)
end Go.Proofs.YtdfjfagljngciaaGreat
