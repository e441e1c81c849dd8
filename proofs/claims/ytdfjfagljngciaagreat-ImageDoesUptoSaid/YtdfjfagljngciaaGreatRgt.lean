/- Packages inode and dirs: whether a node, or its names, are as they should be. Plain laws of states: what is as it should be. -/
import Derived.Test.YtdfjfagljngciaaGreatSta
import Derived.Test.YtdfjfagljngciaaGreatTre
set_option linter.all false
set_option maxRecDepth 100000
set_option maxHeartbeats 4000000
namespace Go.Proofs.YtdfjfagljngciaaGreat
open Go.RowKit Rx

def rightN (n : Node) : Bool :=
  numB n.ino && decide (0 ≤ n.links) && decide (n.links ≤ 16) &&
  (if n.kind = 1 then decide (n.up = 0) && decide (n.names.length = 0) && decide (0 ≤ n.size) && decide (n.size ≤ 16384) && decide ((n.pages.length : Int) = needI n.size)
   else if n.kind = 2 then decide (n.size = 0) && decide (n.pages.length = 0) && decide (n.links = 1) && numB n.up && (!decide (n.ino = 1) || decide (n.up = 1)) else false)
theorem inode_node (n : Int) (w : World) : Calls Tryz.prog 152 #[.int .i64 n] w fun e w' => e = .returned (.bool (numB n)) ∧ w = w' := by
  refine calls_rx h152 Tryz.func152 rfl Tryz.mixed (by kernel_rfl) Tryz.results152 ?_
  unfold numB
  by_cases h : 1 ≤ n
  · simp -dsimp [go_sem, h]
  · simp -dsimp [go_sem, h]
theorem inode_Right (X : Nat → Prop) (n : Node) (cs : List Value) (w : World) (h : rNode.R X w n cs) :
    Calls Tryz.prog 144 #[.agg cs.toArray] w fun r w' => r = .returned (.bool (rightN n)) ∧ Keep w w' := by
  obtain ⟨p, m, rfl, hp, hm, o1, o2, o3, o4, o5⟩ := id h
  obtain ⟨pa, pc, rfl, -⟩ := id hp
  obtain ⟨ma, mc, rfl, -⟩ := id hm
  refine calls_rx h144 Tryz.func144 rfl Tryz.mixed (by kernel_rfl) Tryz.results144 ?_
  unfold Node.enc
  simp -dsimp [go_sem]
  generalize hW : w.alloc _ = W
  obtain ⟨N0, k0, z0⟩ := alloc1 hW
  clear hW
  have N0c := blk_cell N0; have N0f := blk_free N0; have N0l := blk_lt N0
  try simp -dsimp [go_sem, N0c, N0f, N0l]
  refine (inode_node n.ino W).mono ?_; rintro _ w1 ⟨rfl, rfl⟩; refine ret_intro ?_
  unfold rightN
  cases q1 : numB n.ino
  · simp -dsimp [go_sem, q1]
    exact k0
  by_cases q2 : n.links < 0
  · have q2' : ¬ 0 ≤ n.links := by omega
    simp -dsimp [go_sem, N0c, N0f, N0l, q1, q2, q2']
    exact k0
  have q2' : 0 ≤ n.links := by omega
  by_cases q3 : 16 < n.links
  · have q3' : ¬ n.links ≤ 16 := by omega
    simp -dsimp [go_sem, N0c, N0f, N0l, q1, q2, q2', q3, q3']
    exact k0
  have q3' : n.links ≤ 16 := by omega
  by_cases c1 : n.kind = 1
  · have d1 : decide (n.kind = 1) = true := decide_eq_true c1
    rw [if_pos c1]
    simp -dsimp [go_sem, N0c, N0f, N0l, q1, q2, q2', q3, q3', d1]
    have kd := Keep.trans k0 (keep_drew W)
    by_cases r1 : n.up = 0
    rotate_left
    · simp -dsimp [go_sem, N0c, N0f, N0l, r1]
      exact ⟨Keep.agree (keep_drew W) (Agree.refl _), kd⟩
    by_cases r2 : n.names.length = 0
    rotate_left
    · have r2' : ¬ (n.names.length : Int) = 0 := by omega
      simp -dsimp [go_sem, N0c, N0f, N0l, r1, r2, r2']
      exact ⟨Keep.agree (keep_drew W) (Agree.refl _), kd⟩
    have r2' : (n.names.length : Int) = 0 := by omega
    by_cases r3 : 0 ≤ n.size
    rotate_left
    · simp -dsimp [go_sem, N0c, N0f, N0l, r1, r2, r2', r3]
      exact ⟨Keep.agree (keep_drew W) (Agree.refl _), kd⟩
    by_cases r4 : n.size ≤ 16384
    rotate_left
    · simp -dsimp [go_sem, N0c, N0f, N0l, r1, r2, r2', r3, r4]
      exact ⟨Keep.agree (keep_drew W) (Agree.refl _), kd⟩
    simp -dsimp [go_sem, N0c, N0f, N0l, r1, r2, r2', r3, r4]
    refine (inode_Need n.size o4 W.drew).mono ?_; rintro _ w2 ⟨rfl, rfl⟩; refine ret_intro ?_
    refine ⟨Keep.agree (keep_drew W) (Agree.refl _), ?_⟩
    simp -dsimp [go_sem, N0c, N0f, N0l, r1, r2, r2', r3, r4]
    exact ⟨fun _ => ⟨q2', q3'⟩, kd⟩
  rw [if_neg c1]
  by_cases c2 : n.kind = 2
  · have d2 : decide (n.kind = 2) = true := decide_eq_true c2
    rw [if_pos c2]
    simp -dsimp [go_sem, N0c, N0f, N0l, q1, q2, q2', q3, q3', c1, d2]
    by_cases r1 : n.size = 0
    rotate_left
    · simp -dsimp [go_sem, N0c, N0f, N0l, r1]
      exact k0
    by_cases r2 : n.pages.length = 0
    rotate_left
    · have r2' : ¬ (n.pages.length : Int) = 0 := by omega
      simp -dsimp [go_sem, N0c, N0f, N0l, r1, r2, r2']
      exact k0
    have r2' : (n.pages.length : Int) = 0 := by omega
    by_cases r3 : n.links = 1
    rotate_left
    · simp -dsimp [go_sem, N0c, N0f, N0l, r1, r2, r2', r3]
      exact k0
    simp -dsimp [go_sem, N0c, N0f, N0l, r1, r2, r2', r3]
    refine (inode_node n.up W).mono ?_; rintro _ w2 ⟨rfl, rfl⟩; refine ret_intro ?_
    cases r4 : numB n.up
    · simp -dsimp [go_sem, N0c, N0f, N0l, r1, r2, r2', r3, r4]
      exact k0
    by_cases r5 : n.ino = 1
    · simp -dsimp [go_sem, N0c, N0f, N0l, r1, r2, r2', r3, r4, r5]
      exact k0
    · simp -dsimp [go_sem, N0c, N0f, N0l, r1, r2, r2', r3, r4, r5]
      exact k0
  rw [if_neg c2]
  simp -dsimp [go_sem, N0c, N0f, N0l, q1, q2, q2', q3, q3', c1, c2]
  exact k0
/-- Names as they should be. -/
def rightE : List Entry → Bool
  | [] => true
  | x :: l => (decide (nameC x.name = 0) && decide (1 ≤ x.ino) && decide (x.ino ≤ 1048576)) && rightE l
def stepB (l : List Entry) (i : Nat) (x : Entry) : Bool := decide (nameC x.name = 0) && decide (1 ≤ x.ino) && decide (x.ino ≤ 1048576) && (decide (i = 0) || (match l[i - 1]? with | some y => Op.bytesLess y.name.toList x.name.toList | none => false))
def rightL (l : List Entry) : Bool := (List.range l.length).all (fun i => match l[i]? with | some x => stepB l i x | none => true)
theorem dirs_Right (X : Nat → Prop) (v : Value) (l : List Entry) (w : World) (h : Sl rEntry X w v l) :
    Calls Tryz.prog 145 #[v] w fun r w' => r = .returned (.bool (rightL l)) ∧ Keep w w' := by
  obtain ⟨a, c, rfl, -⟩ := id h
  have hmx := h.len
  unfold maxLen at hmx
  refine calls_rx h145 Tryz.func145 rfl Tryz.mixed (by kernel_rfl) Tryz.results145 ?_
  simp -dsimp [go_sem]
  refine loop_intro (σ := Nat) (fun i => [.int .i64 i]) (fun i w' => i ≤ l.length ∧ Keep w w' ∧ ∀ j < i, ∀ x, l[j]? = some x → stepB l j x = true) (fun i => l.length - i) 0 (by simp -dsimp [go_sem]; rfl) (by simp -dsimp [go_sem]) ⟨Nat.zero_le _, Keep.refl w, fun j hj => absurd hj (by omega)⟩ ?_
  rintro i w1 ⟨hi, k1, hall⟩
  simp -dsimp [go_sem]
  by_cases g1 : i < l.length
  rotate_left
  · obtain rfl : i = l.length := by omega
    have hr : rightL l = true := by
      unfold rightL
      rw [List.all_eq_true]
      intro j hj
      have hj' := List.mem_range.1 hj
      rw [List.getElem?_eq_getElem hj']
      exact hall j hj' _ (List.getElem?_eq_getElem hj')
    simp -dsimp [go_sem, Nat.lt_irrefl, hr]
    exact k1
  have hx : l[i]? = some l[i] := List.getElem?_eq_getElem _
  generalize l[i] = x at hx
  have hbad : stepB l i x = false → rightL l = false := fun hb => by
    unfold rightL
    rw [List.all_eq_false]
    exact ⟨i, List.mem_range.2 g1, by rw [hx]; simp [hb]⟩
  obtain ⟨b, off, c', e, hb, -, hxo, hc0, hc1⟩ := (h.keep k1).entry hx
  cases e
  have i2 : (i : Int) < l.length := by omega
  simp -dsimp [go_sem, g1, i2, hb, hc0, hc1]
  generalize hW : w1.alloc _ = w2
  obtain ⟨E2, k2, z2⟩ := alloc1 hW
  clear hW
  have k02 := Keep.trans k1 k2
  refine (name_Check x.name w2).mono ?_; rintro _ w3 ⟨rfl, rfl⟩; refine ret_intro ?_
  have E2c := blk_cell E2; have E2f := blk_free E2; have E2l := blk_lt E2
  by_cases q1 : nameC x.name = 0
  rotate_left
  · have := hbad (by unfold stepB; simp [q1])
    simp -dsimp [go_sem, E2c, E2f, E2l, q1, this]
    exact k02
  by_cases q2 : x.ino < 1
  · have := hbad (by unfold stepB; simp; omega)
    simp -dsimp [go_sem, E2c, E2f, E2l, q1, q2, this]
    exact k02
  by_cases q3 : 1048576 < x.ino
  · have := hbad (by unfold stepB; simp; omega)
    simp -dsimp [go_sem, E2c, E2f, E2l, q1, q2, q3, this]
    exact k02
  have q2' : 1 ≤ x.ino := by omega
  have q3' : x.ino ≤ 1048576 := by omega
  simp -dsimp [go_sem, E2c, E2f, E2l, q1, q2, q3]
  have next : stepB l i x = true → ∀ j < i + 1, ∀ z, l[j]? = some z → stepB l j z = true := fun hs j hj z hz => by
    by_cases g : j = i
    · subst g; rw [hx] at hz; cases hz; exact hs
    · exact hall j (by omega) z hz
  by_cases g0 : 0 < i
  rotate_left
  · have hs : stepB l i x = true := by unfold stepB; simp [q1, q2', q3', show i = 0 by omega]
    simp -dsimp [go_sem, g0]
    try simp -dsimp (disch := omega) only [IntWalk.i64_in, IntWalk.u64_in, IntWalk.u8_in]
    refine ⟨Keep.agree (keep_drew w2) (Agree.refl _), ?_⟩
    exact back_intro (i + 1) (by simp -dsimp [go_sem]) (by simp -dsimp [go_sem]) ⟨by omega, Keep.trans k02 (keep_drew w2), next hs⟩ (by omega)
  have hy : l[i - 1]? = some l[i - 1] := List.getElem?_eq_getElem (by omega)
  generalize l[i - 1] = y at hy
  obtain ⟨b', off', c'', e, hb', -, hyo, hd0, hd1⟩ := (h.keep k02).entry hy
  cases e
  have e1 : IntKind.i64.wrap ((i : Int) - 1) = (i : Int) - 1 := IntWalk.i64_in _ (by omega)
  have e2 : ((i : Int) - 1).toNat = i - 1 := by omega
  have e3 : 0 ≤ (i : Int) - 1 := by omega
  have e4 : (i : Int) - 1 < l.length := by omega
  have e5 : 1 ≤ i := by omega
  have e6 : 1 ≤ (i : Int) := by omega
  simp -dsimp [go_sem, E2c, E2f, E2l, g0, e1, e2, e3, e4, e5, e6, hb', hd0, hd1]
  have kd := keep_drew w2
  refine (name_Less y.name x.name w2.drew).mono ?_; rintro _ w4 ⟨rfl, rfl⟩; refine ret_intro ?_
  refine ⟨Keep.agree kd (Agree.refl _), ?_⟩
  cases hbl : Op.bytesLess y.name.toList x.name.toList
  · have := hbad (by unfold stepB; rw [hy]; simp [hbl]; omega)
    simp -dsimp [go_sem, g0, this]
    exact Keep.trans k02 kd
  · have hs : stepB l i x = true := by unfold stepB; rw [hy]; simp [q1, q2', q3', hbl]
    simp -dsimp [go_sem, g0]
    try simp -dsimp (disch := omega) only [IntWalk.i64_in, IntWalk.u64_in, IntWalk.u8_in]
    exact back_intro (i + 1) (by simp -dsimp [go_sem]) (by simp -dsimp [go_sem]) ⟨by omega, Keep.trans k02 kd, next hs⟩ (by omega)
end Go.Proofs.YtdfjfagljngciaaGreat

set_option linter.all false
set_option maxRecDepth 100000
set_option maxHeartbeats 4000000
namespace Go.Proofs.YtdfjfagljngciaaGreat
open Go.RowKit Rx Go.MapKept

theorem right_nodes {k : Nat} {s : St} (hg : Good k s) (hlo : s.last ≤ k + 1) (hk : k ≤ 1048575) (ht : Tr (fun _ => 0) s) : ∀ n ∈ s.L, rightN n = true ∧ rightL n.names = true ∧ n.ino ≤ s.last := by
  intro n hn
  have hp := hg.pos n hn
  have hl := hlo
  have ho := hg.ok n hn
  have hin : ∀ m ∈ s.L, numB m.ino = true := fun m hm => by
    have := hg.pos m hm
    unfold numB
    simp only [Bool.and_eq_true, decide_eq_true_eq]; omega
  refine ⟨?_, ?_, hp.2⟩
  · have hct := ht.ct n hn
    have hnn := times_nn s.L n.ino
    unfold rightN
    rw [hin n hn]
    rcases ht.kd n hn with hk1 | hk2
    · rw [if_neg (by omega)] at hct
      have hkd := ho.kd
      have hl1 := ho.l1
      have hf := ht.kf n hn hk1
      rcases hkd with ⟨-, s1, s2, s3, s4⟩ | ⟨q, -⟩
      · have hN : 0 ≤ needI n.size := by unfold needI; split <;> omega
        rw [if_pos hk1]
        simp only [Bool.true_and, Bool.and_eq_true, decide_eq_true_eq]
        refine ⟨⟨by omega, hl1⟩, ⟨⟨⟨hf.2, by rw [s4]; rfl⟩, s1⟩, s2⟩, by omega⟩
      · omega
    · have hkl := ht.kl n hn hk2
      have hpg : n.pages = [] := by
        rcases ho.kd with ⟨q, -⟩ | ⟨-, q⟩
        · omega
        · exact q
      have hup : numB n.up = true ∧ (n.ino = 1 → n.up = 1) := by
        by_cases g : n.ino = 1
        · have hr := ht.rup
          have hgn := getL_mem hg.inos hn
          rw [g] at hgn
          rw [dirN_some hgn] at hr
          exact ⟨by rw [hr]; decide, fun _ => hr⟩
        · rw [if_pos hk2, if_neg g] at hct
          obtain ⟨m, hm, x, hx, e⟩ := times_ex (L := s.L) (i := n.ino) (by omega)
          obtain ⟨k', q1, q2, q3⟩ := ht.ex m hm x hx
          have : k' = n := inos_inj hg.inos q1 hn (q2.trans e)
          subst this
          exact ⟨by rw [(q3 hk2).1]; exact hin m hm, fun e => absurd e g⟩
      rw [if_neg (by omega), if_pos hk2]
      simp only [Bool.true_and, Bool.and_eq_true, Bool.or_eq_true, Bool.not_eq_true', decide_eq_true_eq, decide_eq_false_iff_not]
      refine ⟨⟨by omega, by omega⟩, ⟨⟨⟨hkl.2, by rw [hpg]; rfl⟩, hkl.1⟩, hup.1⟩, ?_⟩
      by_cases g : n.ino = 1
      · exact .inr (hup.2 g)
      · exact .inl g
  · unfold rightL
    rw [List.all_eq_true]
    intro i hi
    have hi' := List.mem_range.1 hi
    have hx : n.names[i]? = some n.names[i] := List.getElem?_eq_getElem hi'
    rw [hx]
    have hxm : n.names[i] ∈ n.names := List.getElem_mem hi'
    obtain ⟨k', q1, q2, -⟩ := ht.ex n hn _ hxm
    have hpk := hg.pos k' q1
    unfold stepB
    simp only [Bool.and_eq_true, Bool.or_eq_true, decide_eq_true_eq]
    refine ⟨⟨⟨ht.nmc n hn _ hxm, by omega⟩, by omega⟩, ?_⟩
    by_cases g : i = 0
    · exact .inl g
    · right
      have hy : n.names[i - 1]? = some (n.names[i - 1]'(by omega)) := List.getElem?_eq_getElem (by omega)
      rw [hy]
      have hs := ht.srt n hn
      unfold Srt at hs
      exact List.pairwise_iff_getElem.1 hs (i - 1) i (by omega) hi' (by omega)
/-- How often each node is named is what it says. -/
theorem right_times {k : Nat} {s : St} (hg : Good k s) (ht : Tr (fun _ => 0) s) : ∀ n ∈ s.L, (n.kind = 1 → timesL s.L n.ino = n.links) ∧ (n.kind = 2 → n.ino ≠ 1 → timesL s.L n.ino = 1 ∧ withinS s n.ino 1 = true) := by
  intro n hn
  have hct := ht.ct n hn
  refine ⟨fun hk => ?_, fun hk h1 => ⟨?_, withinS_iff.2 (ht.anc n hn hk)⟩⟩
  · rw [if_neg (by omega)] at hct; omega
  · rw [if_pos hk, if_neg h1] at hct; omega
/-- What stays right behind deeds whose references are their own. -/
theorem right_apply {k : Nat} {s : St} (hg : Good k s) (hk : k ≤ 2 ^ 19) (ht : Tr (fun _ => 0) s) {m : Int} (hm : 0 ≤ m) (hr : Rfs m s) (e : Effect) : Tr (fun _ => 0) (applyS s e (m + 1)).1 ∧ Rfs (m + 1) (applyS s e (m + 1)).1 := by
  refine ⟨tree_apply hg hk ht e _, ?_⟩
  unfold applyS
  split
  · rename_i he
    cases hd : doesS s e (m + 1) with
    | none => exact hr.mono (by omega)
    | some R => exact refs_does hg hk hm hr he hd
  · exact hr.mono (by omega)
theorem refs_st0 : Rfs 0 st0 := by
  refine ⟨fun n hn => ?_, fun a ha b hb hab => ?_⟩
  · simp [st0] at hn; subst hn; exact ⟨List.nodup_nil, fun r hr => by cases hr⟩
  · simp [st0] at ha hb; subst ha hb; exact absurd rfl hab
end Go.Proofs.YtdfjfagljngciaaGreat
