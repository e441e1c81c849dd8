/- What any path leads tu, which node is within which, and a reference that is turned. -/
import Derived.Test.YtdfjfagljngciaaGreatDoorAw
import Derived.Test.YtdfjfagljngciaaGreatDoorFnr
import Derived.Test.YtdfjfagljngciaaGreatDoorSam
import Derived.Test.YtdfjfagljngciaaGreatDoorTrn
set_option linter.all false
set_option maxRecDepth 100000
set_option maxHeartbeats 4000000
namespace Go.Proofs.YtdfjfagljngciaaGreatDoor
open Go.RowKit Rx Go.MapKept

theorem nameC_num (x : ByteArray) : 0 ≤ nameC x ∧ nameC x ≤ 36 := by
  unfold nameC
  repeat' split
  all_goals omega
theorem chkP_num : ∀ l : List ByteArray, 0 ≤ chkP l ∧ chkP l ≤ 36
  | [] => by simp [chkP]
  | x :: l => by
    have := chkP_num l
    have := nameC_num x
    rw [chkP]
    repeat' split
    all_goals omega
theorem walkS_num (s : St) : ∀ (l : List ByteArray) (k : Int), 0 ≤ (walkS s l k).2 ∧ (walkS s l k).2 ≤ 36
  | [], k => by simp [walkS]
  | x :: l, k => by
    rw [walkS]
    split
    · simp
    · split
      · simp
      · exact walkS_num s l _
theorem findP_num (s : St) (p : ByteArray) : 0 ≤ (findP s p).2 ∧ (findP s p).2 ≤ 36 := by
  unfold findP
  split
  · exact walkS_num s _ _
  · show 0 ≤ (splitP p).2 ∧ (splitP p).2 ≤ 36
    unfold splitP
    have := chkP_num (pcs p)
    repeat' split
    all_goals simp
    all_goals omega
def oldV (d : Node) (is : Bool) (page : Int) : Int := if is = true ∧ 0 ≤ page ∧ page < d.pages.length then (d.pages[page.toNat]?).getD 0 else 0
theorem turn_old {s : St} {ia page : Int} : turnB s ia page (oldV (dirN s ia) (getL s.L ia).isSome page) = !decide (oldV (dirN s ia) (getL s.L ia).isSome page = 0) := by
  unfold turnB oldV
  by_cases h : (getL s.L ia).isSome = true ∧ 0 ≤ page ∧ page < (dirN s ia).pages.length
  · rw [if_pos h]
    obtain ⟨h1, h2, h3⟩ := h
    have hi : page.toNat < (dirN s ia).pages.length := by omega
    rw [h1, List.getElem?_eq_getElem hi]
    simp [h2, h3]
  · rw [if_neg h]; simp
@[go_sem] def hSf : Rx.Hints := { plans := [(12, .take 0 (.take 1 (.take 2 (.take 3 (.take 4 (.take 5 (.take 6 (.take 7 (.take 8 (.take 9 (.take 10 (.take 11 (.take 12 (.take 13 (.take 14 (.act 15 (.take 16 (.take 17 (.take 18 .done)))))))))))))))))))], joins := [(12, ⟨[], [2, 4, 5, 13, 19, 20]⟩), (15, ⟨[22], [2, 4, 5, 13, 19]⟩)] }
theorem state_finds_law (M : Int) (v : Value) (l : List Deed16) (path : ByteArray) (ia ib page ref : Int) (hia : I64 ia) (hib : I64 ib) (hpg : I64 page) (hrf : I64 ref) (w : World) (hm : w.cell? ⟨0, 0, none⟩ = some (.int .i64 M)) (hl : Sl rDeed16 (fun _ => False) w v l) (hlen : l.length * 112 ≤ 140737488351232) :
    Calls Tryz.prog 4 #[v, .string path, .int .i64 ia, .int .i64 ib, .int .i64 page, .int .i64 ref] w fun r w' => r = .returned (.bool true) ∧ Keep w w' := by
  obtain ⟨a, c, rfl, -⟩ := id hl
  refine calls_rx hSf Tryz.func4 rfl Tryz.mixed (by kernel_rfl) Tryz.results4 ?_
  simp -dsimp [go_sem]
  refine (awake16 M w hm).mono ?_; rintro _ w1 ⟨rfl, k1⟩; refine ret_intro ?_
  simp -dsimp [go_sem]
  refine (few16 _ l w1 (hl.keep k1) (by omega)).mono ?_
  rintro _ w2 ⟨bf, rfl, hbf, k2⟩
  refine ret_intro ?_
  have k02 := Keep.trans k1 k2
  cases bf
  · simp -dsimp [go_sem]
    exact k02
  obtain ⟨hl30, hlf⟩ := hbf rfl
  by_cases g0 : 200 < path.size
  · have g0' : (200 : Int) < path.size := by omega
    simp -dsimp [go_sem, g0, g0']
    exact k02
  have g0' : ¬ (200 : Int) < path.size := by omega
  simp -dsimp [go_sem, g0, g0']
  refine (law_Done l _ w2 (hl.keep k02) hl30 hlf).mono ?_
  rintro _ w3 ⟨b, m, rc, u, rfl, T3, k3⟩
  refine ret_intro ?_
  have k03 := Keep.trans k02 k3
  have hg0 := good_done (l := l) (by omega)
  generalize doneS l = s at T3 hg0
  have hg2 : Good 60 s := hg0.mono (by omega)
  have hfi := hg2.fine (by omega)
  have hl40 : s.L.length ≤ 2 ^ 40 := Nat.le_trans hg2.len (by omega)
  have lbb := T3.bb
  have lbm := T3.bm
  have l02 := k02.size
  simp -dsimp [go_sem]
  refine (state_Find _ b m s hfi path M w3 (k03.cell hm (fun q => q)) T3.st).mono ?_; rintro _ w4 ⟨rfl, k4⟩; refine ret_intro ?_
  have hfn := findP_num s path
  have k04 := Keep.trans k03 k4
  have T4 := T3.keep k4
  simp -dsimp [go_sem]
  refine (ref_FindP _ rc u s 60 hg2 (by omega) path (by omega) w4 T4.rt).mono ?_; rintro _ w5 ⟨rfl, k5⟩; refine ret_intro ?_
  have k05 := Keep.trans k04 k5
  have T5 := T4.keep k5
  generalize findP s path = fp at hfn ⊢
  obtain ⟨f1, f2⟩ := fp
  simp only at hfn ⊢
  have e2 : IntKind.i64.wrap f2 = f2 := IntWalk.i64_in _ (by omega)
  simp -dsimp [go_sem, e2]
  refine (state_Within _ b m s hfi ia ib w5 T5.st).mono ?_; rintro _ w6 ⟨rfl, k6⟩; refine ret_intro ?_
  have T6 := T5.keep k6
  simp -dsimp [go_sem]
  refine (ref_Within _ rc u s ia ib hl40 w6 T6.rt).mono ?_; rintro _ w7 ⟨rfl, k7⟩; refine ret_intro ?_
  have T7 := T6.keep k7
  have k07 := Keep.trans k05 (Keep.trans k6 k7)
  simp -dsimp [go_sem]
  refine (state_Get _ b m s hfi.d ia hfi.sz w7 T7.st).mono ?_; rintro _ w8 ⟨pp, pq, rfl, n8, k8⟩; refine ret_intro ?_
  have dok := T7.st.okN ia
  have dsz := hfi.szN ia
  rw [show (getL s.L ia).getD node0 = dirN s ia from rfl] at n8 dok dsz ⊢
  generalize hD : dirN s ia = d at n8 dok dsz ⊢
  generalize hI : (getL s.L ia).isSome = is
  obtain ⟨pa, pc, ma, mc, rfl, rfl, -⟩ := n8.slices
  unfold Node.enc
  simp -dsimp [go_sem]
  generalize hW : w8.alloc _ = w9
  obtain ⟨N9, k9, z9⟩ := alloc1s hW
  clear hW
  have T9 := T7.keep (Keep.trans k8 k9)
  have k09 := Keep.trans k07 (Keep.trans k8 k9)
  have n9 := n8.keep k9
  refine (ref_At _ rc u s ia hl40 w9 T9.rt).mono ?_; rintro _ w10 ⟨rfl, k10⟩; refine ret_intro ?_
  have N10 := k10.blk N9 (fun q => q)
  have n10 := n9.keep k10
  have T10 := T9.keep k10
  have k010 := Keep.trans k09 k10
  have R10 := T10.rt.hb
  have hrn : rNode.R (fun _ => False) w10 d (d.enc (.slice pa d.pages.length pc) (.slice ma d.names.length mc)) := n10.rep dok (fun _ _ q => q.elim)
  have kd := keep_drew w10
  simp -dsimp [go_sem]
  refine join_intro (σ := Unit) (fun _ => []) (fun _ w' => Keep w10 w') (by simp -dsimp [go_sem]; rfl) ?_ ?_
  · rcases at_cases s.L ia with ⟨e3, e4⟩ | ⟨i, x, e3, e4, e5⟩
    · rw [e4] at hI
      subst hI
      rw [e3]
      have N10c := blk_cell N10; have N10f := blk_free N10; have N10l := blk_lt N10; have R10c := blk_cell R10; have R10f := blk_free R10; have R10l := blk_lt R10
      simp -dsimp [go_sem, N10c, N10f, N10l, R10c, R10f, R10l]
      refine ⟨Keep.agree kd (Agree.refl _), ?_⟩
      exact meet_intro () (by simp -dsimp [go_sem]) (by simp -dsimp [go_sem]) kd
    · rw [e5] at hI
      subst hI
      rw [e3]
      have hi := (List.getElem?_eq_some_iff.1 e4).1
      obtain ⟨g, off, c', p2, m2, rfl, hg, hgo, hok2, hp2, hm2, c0, c1, c2, c3, c4, c5, c6, hf, -⟩ := T10.rt.ho.node T10.rt.xv e4
      have i2 : (i : Int) < s.L.length := by omega
      have i3 : ¬ (i : Int) < 0 := by omega
      have i4 : (0 : Int) ≤ i := by omega
      have hdx : d = x := by rw [← hD]; exact dirN_some e5
      obtain ⟨qa, qc, rfl, -⟩ := id hp2
      obtain ⟨ra, rc2, rfl, -⟩ := id hm2
      have N10c := blk_cell N10; have N10f := blk_free N10; have N10l := blk_lt N10; have R10c := blk_cell R10; have R10f := blk_free R10; have R10l := blk_lt R10
      simp -dsimp [go_sem, N10c, N10f, N10l, R10c, R10f, R10l, hg, hi, i2, i3, i4, c0, c1, c2, c3, c4, c5, c6]
      refine (ref_SameNode (fun _ => False) _ d x _ _ w10.drew (rNode.keep hrn kd) (rNode.keep ⟨_, _, rfl, hp2, hm2, hok2⟩ kd)).mono ?_
      rintro _ w11 ⟨rfl, k11⟩
      refine ret_intro ?_
      have q11 := Keep.trans kd k11
      refine ⟨Keep.agree q11 (Agree.refl _), ?_⟩
      simp -dsimp [go_sem, hdx]
      exact meet_intro () (by simp -dsimp [go_sem]) (by simp -dsimp [go_sem]) q11
  rintro _ w12 k12
  have N12 := k12.blk N10 (fun q => q)
  have T12 := T10.keep k12
  have n12 := n10.keep k12
  have k012 := Keep.trans k010 k12
  have N12c := blk_cell N12; have N12f := blk_free N12; have N12l := blk_lt N12
  have hrn12 := rNode.keep hrn k12
  simp -dsimp [go_sem, N12c, N12f, N12l]
  refine join_intro (σ := Int) (fun o => [.int .i64 o]) (fun o w' => w12 = w' ∧ I64 o ∧ o = oldV d is page) (by simp -dsimp [go_sem]; rfl) ?_ ?_
  · by_cases q1 : is = true
    rotate_left
    · have q1' : is = false := by cases is; rfl; exact absurd rfl q1
      subst q1'
      simp -dsimp [go_sem, N12c, N12f, N12l]
      exact meet_intro 0 (by simp -dsimp [go_sem]) (by simp -dsimp [go_sem]) ⟨rfl, by simp [I64], by unfold oldV; rw [if_neg (by simp)]⟩
    subst q1
    by_cases q2 : 0 ≤ page
    rotate_left
    · have q2' : page < 0 := by omega
      simp -dsimp [go_sem, N12c, N12f, N12l, q2, q2']
      exact meet_intro 0 (by simp -dsimp [go_sem, q2, q2']) (by simp -dsimp [go_sem]) ⟨rfl, by simp [I64], by unfold oldV; rw [if_neg (by omega)]⟩
    obtain ⟨j, rfl⟩ := Int.eq_ofNat_of_zero_le q2
    by_cases q3 : j < d.pages.length
    rotate_left
    · have q3' : ¬ (j : Int) < d.pages.length := by omega
      have q3c : d.pages.length ≤ j := by omega
      simp -dsimp [go_sem, N12c, N12f, N12l, q2, q3, q3', q3c]
      exact meet_intro 0 (by simp -dsimp [go_sem, q2, q3, q3', q3c]) (by simp -dsimp [go_sem]) ⟨rfl, by simp [I64], by unfold oldV; rw [if_neg (by omega)]⟩
    have q3' : (j : Int) < d.pages.length := by omega
    have q3c : ¬ d.pages.length ≤ j := by omega
    have hx : d.pages[j]? = some d.pages[j] := List.getElem?_eq_getElem q3
    generalize d.pages[j] = x at hx
    obtain ⟨gb, off, c', e', hgl, hgo, hgc, hgf, hx64, -⟩ := n12.po.int_at hx
    cases e'
    simp -dsimp [go_sem, N12c, N12f, N12l, q2, q3, q3', q3c, hgl, hgc, hgf]
    exact meet_intro x (by simp -dsimp [go_sem, q2, q3, q3', q3c]) (by simp -dsimp [go_sem]) ⟨rfl, hx64, by unfold oldV; rw [if_pos ⟨rfl, q2, q3'⟩]; simp [hx]⟩
  rintro o _ ⟨rfl, ho64, ho⟩
  have hto : turnB s ia page o = !decide (o = 0) := by rw [ho, ← hD, ← hI]; exact turn_old
  simp -dsimp [go_sem]
  refine (state_Turn _ b m s hfi ia page o ref hrf w12 T12.st).mono ?_; rintro _ w13 ⟨rfl, h13, s13⟩; refine ret_intro ?_
  rw [hto]
  have lbm12 := T12.st.size_b
  have k013 : Keep w w13 := Step.keep k012 s13 (fun j q => by omega)
  have lbm7 := T7.st.size_b
  have n13 := n12.step s13 (fun k hk q => by omega)
  have N13 := s13.blk N12 (fun q => by have := (Keep.trans k8 (Keep.refl _)).size; omega)
  clear N12c N12f N12l
  by_cases z : o = 0
  · have ht : turnS s ia page o ref = s := by unfold turnS; rw [hto, if_neg (by simp [z])]
    rw [ht] at h13
    subst z
    simp -dsimp [go_sem]
    refine (state_Get _ b m s hfi.d ia hfi.sz w13 h13).mono ?_; rintro _ w14 ⟨pp2, pq2, rfl, n14, k14⟩; refine ret_intro ?_
    rw [show (getL s.L ia).getD node0 = dirN s ia from rfl, hD] at *
    obtain ⟨pa2, pc2, ma2, mc2, rfl, rfl, -⟩ := n14.slices
    unfold Node.enc
    simp -dsimp [go_sem]
    generalize hW : w14.alloc _ = w15
    obtain ⟨M15, k15, z15⟩ := alloc1s hW
    clear hW
    have N15 := (Keep.trans k14 k15).blk N13 (fun q => q)
    have N15c := blk_cell N15; have N15f := blk_free N15; have N15l := blk_lt N15; have M15c := blk_cell M15; have M15f := blk_free M15; have M15l := blk_lt M15
    simp -dsimp [go_sem, N15c, N15f, N15l, M15c, M15f, M15l]
    have n15 := n13.keep (Keep.trans k14 k15)
    refine (ref_SameNode (fun _ => False) (fun _ => False) d d _ _ w15 ((n14.keep k15).rep dok (fun _ _ q => q.elim)) (n15.rep dok (fun _ _ q => q.elim))).mono ?_
    rintro _ w16 ⟨rfl, k16⟩
    refine ret_intro ?_
    rw [decide_eq_true (rfl : d = d)]
    simp -dsimp [go_sem]
    exact Keep.trans k013 (Keep.trans (Keep.trans k14 k15) k16)
  have ht : turnS s ia page o ref = ⟨setL s.L { d with pages := d.pages.set page.toNat ref }, s.last⟩ := by unfold turnS; rw [hto, if_pos (by simp [z]), hD]
  obtain ⟨r1, r2, r3⟩ : is = true ∧ 0 ≤ page ∧ page < d.pages.length := by
    by_cases q : is = true ∧ 0 ≤ page ∧ page < d.pages.length
    · exact q
    · exact absurd (by rw [ho]; unfold oldV; rw [if_neg q]) z
  obtain ⟨j, rfl⟩ := Int.eq_ofNat_of_zero_le r2
  have r3' : j < d.pages.length := by omega
  subst r1
  have hdi : d.ino = ia := by
    cases hq : getL s.L ia with
    | none => rw [hq] at hI; cases hI
    | some n => rw [← hD, dirN_some hq]; exact (getL_some hq).2
  rw [ht, show ((j : Int)).toNat = j from rfl] at h13
  generalize hd' : ({ d with pages := d.pages.set j ref } : Node) = d' at h13
  have hd'i : d'.ino = ia := by rw [← hd']; exact hdi
  have hd'l : d'.pages.length = d.pages.length := by rw [← hd']; exact List.length_set
  have hd'j : d'.pages[j]? = some ref := by rw [← hd']; simp [r3']
  have hd'n : d'.names = d.names := by rw [← hd']
  have hin : Inos (setL s.L d') := inos_setL hfi.d _
  have hgt : getL (setL s.L d') ia = some d' := by rw [getL_set hfi.d, if_pos hd'i]
  have hsz : ∀ n ∈ setL s.L d', n.pages.length ≤ 2 ^ 20 ∧ n.names.length ≤ 2 ^ 20 := fun n hn => by
    rcases mem_setL.1 hn with q | ⟨q, -⟩
    · rw [q, hd'l, hd'n]; exact dsz
    · exact hfi.sz n q
  simp -dsimp [go_sem, z]
  refine (state_Get _ b m ⟨setL s.L d', s.last⟩ hin ia hsz w13 h13).mono ?_; rintro _ w14 ⟨pp2, pq2, rfl, n14, k14⟩; refine ret_intro ?_
  simp only [hgt, Option.getD_some, Option.isSome_some] at n14 ⊢
  obtain ⟨pa2, pc2, ma2, mc2, rfl, rfl, -⟩ := n14.slices
  obtain ⟨gb, off, c', e', hgl, hgo, hgc, hgf, hx64, -⟩ := n14.po.int_at hd'j
  cases e'
  unfold Node.enc
  simp -dsimp [go_sem, z]
  generalize hW : w14.alloc _ = w15
  obtain ⟨M15, k15, z15⟩ := alloc1s hW
  clear hW
  have hgc2 := k15.cell hgc (fun q => q)
  have hgl2 := k15.lt hgl
  have r5 : (j : Int) < d'.pages.length := by omega
  have r6 : j < d'.pages.length := by omega
  have r7 : ¬ d'.pages.length ≤ j := by omega
  have M15c := blk_cell M15; have M15f := blk_free M15; have M15l := blk_lt M15
  simp -dsimp [go_sem, M15c, M15f, M15l, z, r2, r5, r6, r7, hgl2, hgc2]
  exact Keep.trans k013 (Keep.trans k14 k15)
end Go.Proofs.YtdfjfagljngciaaGreatDoor
