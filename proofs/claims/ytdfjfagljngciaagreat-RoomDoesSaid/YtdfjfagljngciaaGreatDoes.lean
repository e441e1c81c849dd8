/- Whether any state fits, and whether any effects can be tried. -/
import Derived.Test.YtdfjfagljngciaaGreatGoes
import Derived.Test.YtdfjfagljngciaaGreatRw
import Derived.Test.YtdfjfagljngciaaGreatAlk
set_option linter.all false
set_option maxRecDepth 100000
set_option maxHeartbeats 4000000
namespace Go.Proofs.YtdfjfagljngciaaGreat
open Go.RowKit Rx Go.MapKept

theorem tryS_num (G : Geom) : ∀ (es : List Effect) (s : St) (n : Int) (f : Bool), tryS G s es n f = 0 ∨ tryS G s es n f = 28 ∨ tryS G s es n f = 93
  | [], s, n, f => by rw [tryS]; split <;> simp
  | e :: es, s, n, f => by
    rw [tryS]
    by_cases h : (applyS s e (if e.kind = 7 then n + 1 else 0)).2.2 = 0
    · rw [if_pos h]; exact tryS_num G es _ _ _
    · rw [if_neg h]; simp
theorem room_does_law (pages : Int) (v v' : Value) (l : List Deed16) (es : List Effect) (w : World) (hl : Sl rDeed16 (fun _ => False) w v l) (he : Sl rEffect (fun _ => False) w v' es) (hlen : l.length * 112 ≤ 140737488351232) :
    Calls Tryz.prog 4 #[.int .i64 pages, v, v'] w fun r w' => r = .returned (.bool true) ∧ Keep w w' := by
  obtain ⟨a, c, rfl, -⟩ := id hl
  obtain ⟨a', c', rfl, -⟩ := id he
  refine calls_rx h4 Tryz.func4 rfl Tryz.mixed (by kernel_rfl) Tryz.results4 ?_
  simp -dsimp [go_sem]
  refine (awake17 w).mono ?_; rintro _ w1 ⟨rfl, k1⟩; refine ret_intro ?_
  simp -dsimp [go_sem]
  refine (few16 _ l w1 (hl.keep k1) (by omega)).mono ?_
  rintro _ w2 ⟨bf, rfl, hbf, k2⟩
  refine ret_intro ?_
  have k02 := Keep.trans k1 k2
  cases bf
  · simp -dsimp [go_sem]
    exact k02
  obtain ⟨hl30, hlf⟩ := hbf rfl
  simp -dsimp [go_sem]
  refine (few09 _ es w2 (he.keep k02)).mono ?_
  rintro _ w3 ⟨bf, rfl, hbf2, k3⟩
  refine ret_intro ?_
  have k03 := Keep.trans k02 k3
  cases bf
  · simp -dsimp [go_sem]
    exact k03
  obtain ⟨he30, hef⟩ := hbf2 rfl
  simp -dsimp [go_sem]
  refine (ref_Geom pages w3).mono ?_; rintro _ w5 ⟨rfl, k5⟩; refine ret_intro ?_
  have hsm := geomS_small pages
  generalize geomS pages = G at hsm ⊢
  generalize geomB pages = gb
  unfold Geom.enc
  simp -dsimp [go_sem]
  generalize hW : w5.alloc _ = w6
  obtain ⟨G6, k6, z6⟩ := alloc1 hW
  clear hW
  have k06 := Keep.trans k03 (Keep.trans k5 k6)
  cases gb
  · simp -dsimp [go_sem]
    exact k06
  simp -dsimp [go_sem]
  refine (law_Done l _ w6 (hl.keep k06) hl30 hlf).mono ?_
  rintro _ w7 ⟨b, m, cb, u, rfl, T7, k7⟩
  refine ret_intro ?_
  have k07 := Keep.trans k06 k7
  have G7 := k7.blk G6 (fun q => q)
  have hgd := good_done (l := l) (by omega)
  generalize doneS l = s at T7 hgd
  have hgd := hgd.mono (k' := 60) (by omega)
  have S7 := T7.st
  have R7 := T7.rt
  have G7c := blk_cell G7; have G7f := blk_free G7; have G7l := blk_lt G7
  simp -dsimp [go_sem, G7c, G7f, G7l]
  refine (room_Left _ b m s 60 hgd (by omega) G hsm w7 S7).mono ?_; rintro _ w8 ⟨rfl, k8⟩; refine ret_intro ?_
  have G8 := k8.blk G7 (fun q => q)
  have k08 := Keep.trans k07 k8
  have S8 := S7.keep k8
  have R8 := R7.keep k8
  clear G7c G7f G7l
  have G8c := blk_cell G8; have G8f := blk_free G8; have G8l := blk_lt G8
  have hw1 := words_bd hgd (by omega)
  have hr1 := refs_bd hgd (by omega)
  obtain ⟨g1, g2, g3, g4⟩ := id hsm
  have e1 : IntKind.i64.wrap (G.image - 1) = G.image - 1 := IntWalk.i64_in _ (by omega)
  have e2 : IntKind.i64.wrap (G.data - 1) = G.data - 1 := IntWalk.i64_in _ (by omega)
  have e3 : IntKind.i64.wrap (G.image - 1 - wordsS s) = leftW G s := IntWalk.i64_in _ (by omega)
  have e4 : IntKind.i64.wrap (G.data - 1 - (refsS s).length) = leftP G s := IntWalk.i64_in _ (by omega)
  simp -dsimp [go_sem, G8c, G8f, G8l]
  have kd := keep_drew w8
  refine (room_Fits _ b m s 60 hgd (by omega) G hsm w8.drew (S8.keep kd)).mono ?_; rintro _ w9 ⟨rfl, k9⟩; refine ret_intro ?_
  have q9 := Keep.trans kd k9
  refine ⟨Keep.agree q9 (Agree.refl _), ?_⟩
  try simp -dsimp [go_sem, G8c, G8f, G8l]
  refine (ref_Fits _ cb u s 60 hgd (by omega) G hsm w9 (R8.keep q9)).mono ?_; rintro _ w10 ⟨rfl, k10⟩; refine ret_intro ?_
  have q10 := Keep.trans q9 k10
  refine ⟨Keep.agree q10 (Agree.refl _), ?_⟩
  simp -dsimp [go_sem, G8c, G8f, G8l]
  refine (ref_Words _ cb u s 60 hgd (by omega) w10 (R8.keep q10)).mono ?_; rintro _ w11 ⟨rfl, k11⟩; refine ret_intro ?_
  have q11 := Keep.trans q10 k11
  refine ⟨Keep.agree q11 (Agree.refl _), ?_⟩
  simp -dsimp [go_sem, G8c, G8f, G8l, e1, e2, e3, e4]
  refine (ref_Refs _ cb u s 60 hgd (by omega) w11 (R8.keep q11)).mono ?_; rintro _ w12 ⟨u1, rfl, o12, k12, -⟩; refine ret_intro ?_
  obtain ⟨ua1, uc1, rfl, -⟩ := o12.slice
  have q12 := Keep.trans q11 k12
  refine ⟨Keep.agree q12 (Agree.refl _), ?_⟩
  simp -dsimp [go_sem, G8c, G8f, G8l, e1, e2, e3, e4]
  refine (room_Pages _ b m s 60 hgd (by omega) w12 (S8.keep q12)).mono ?_; rintro _ w13 ⟨rfl, k13⟩; refine ret_intro ?_
  have q13 := Keep.trans q12 k13
  refine ⟨Keep.agree q13 (Agree.refl _), ?_⟩
  simp -dsimp [go_sem, G8c, G8f, G8l, e1, e2, e3, e4]
  refine (ref_Refs _ cb u s 60 hgd (by omega) w13 (R8.keep q13)).mono ?_; rintro _ w14 ⟨u2, rfl, o14, k14, -⟩; refine ret_intro ?_
  obtain ⟨ua2, uc2, rfl, -⟩ := o14.slice
  have q14 := Keep.trans q13 k14
  refine ⟨Keep.agree q14 (Agree.refl _), ?_⟩
  simp -dsimp [go_sem, G8c, G8f, G8l, e1, e2, e3, e4]
  have k8_ := k08
  refine (room_Try _ b m s 60 hgd G hsm _ es (by omega) w14 ((he.keep k08).keep q14) (S8.keep q14)).mono ?_; rintro _ w15 ⟨rfl, k15⟩; refine ret_intro ?_
  have q15 := Keep.trans q14 k15
  refine ⟨Keep.agree q15 (Agree.refl _), ?_⟩
  simp -dsimp [go_sem, G8c, G8f, G8l, e1, e2, e3, e4]
  refine (ref_Try _ cb u s 60 hgd G hsm _ es (by omega) hef w15 ((he.keep k08).keep q15) (R8.keep q15)).mono ?_; rintro _ w16 ⟨rfl, k16⟩; refine ret_intro ?_
  have q16 := Keep.trans q15 k16
  rw [try_same]
  have t64 : IntKind.i64.wrap (tryS G s es 1099511627776 false) = tryS G s es 1099511627776 false := by
    rcases tryS_num G es s 1099511627776 false with q | q | q <;> rw [q] <;> exact IntWalk.i64_in _ (by omega)
  generalize tryS G s es 1099511627776 false = tr at t64 ⊢
  refine ⟨Keep.agree q16 (Agree.refl _), ?_⟩
  simp -dsimp [go_sem, G8c, G8f, G8l, e1, e2, e3, e4, t64]
  refine (law_Alike _ _ b m cb u s s 60 60 hgd (by omega) hgd (by omega) w16 (S8.keep q16) (R8.keep q16)).mono ?_; rintro _ w17 ⟨rfl, k17⟩; refine ret_intro ?_
  have q17 := Keep.trans q16 k17
  refine ⟨Keep.agree q17 (Agree.refl _), ?_⟩
  simp -dsimp [go_sem, G8c, G8f, G8l, e1, e2, e3, e4, t64]
  exact Keep.trans k08 q17
end Go.Proofs.YtdfjfagljngciaaGreat
