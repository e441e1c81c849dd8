/- Plain laws of states: what is as it should be. -/
import Derived.Test.YtdfjfagljngciaaGreatRgt
import Derived.Test.YtdfjfagljngciaaGreatRfs
set_option linter.all false
set_option maxRecDepth 100000
set_option maxHeartbeats 4000000
namespace Go.Proofs.YtdfjfagljngciaaGreat
open Go.RowKit Rx Go.MapKept

theorem right_nodes {k : Nat} {s : St} (hg : Good k s) (hk : k ≤ 1048575) (ht : Tr (fun _ => 0) s) : ∀ n ∈ s.L, rightN n = true ∧ rightL n.names = true ∧ n.ino ≤ s.last := by
  intro n hn
  have hp := hg.pos n hn
  have hl := hg.l1
  have ho := hg.ok n hn
  have hin : ∀ m ∈ s.L, numB m.ino = true := fun m hm => by
    have := hg.pos m hm
    unfold numB
    simp only [Bool.and_eq_true, decide_eq_true_eq]; omega
  refine ⟨?_, ?_, hp.2⟩
  · have hct := ht.ct n hn
    have hnn := times_nn s.L n.ino
    unfold rightN
    rw [hin n hn]
    rcases ht.kd n hn with hk1 | hk2
    · rw [if_neg (by omega)] at hct
      have hkd := ho.kd
      have hl1 := ho.l1
      have hf := ht.kf n hn hk1
      rcases hkd with ⟨-, s1, s2, s3, s4⟩ | ⟨q, -⟩
      · have hN : 0 ≤ needI n.size := by unfold needI; split <;> omega
        rw [if_pos hk1]
        simp only [Bool.true_and, Bool.and_eq_true, decide_eq_true_eq]
        refine ⟨⟨by omega, hl1⟩, ⟨⟨⟨hf.2, by rw [s4]; rfl⟩, s1⟩, s2⟩, by omega⟩
      · omega
    · have hkl := ht.kl n hn hk2
      have hpg : n.pages = [] := by
        rcases ho.kd with ⟨q, -⟩ | ⟨-, q⟩
        · omega
        · exact q
      have hup : numB n.up = true ∧ (n.ino = 1 → n.up = 1) := by
        by_cases g : n.ino = 1
        · have hr := ht.rup
          have hgn := getL_mem hg.inos hn
          rw [g] at hgn
          rw [dirN_some hgn] at hr
          exact ⟨by rw [hr]; decide, fun _ => hr⟩
        · rw [if_pos hk2, if_neg g] at hct
          obtain ⟨m, hm, x, hx, e⟩ := times_ex (L := s.L) (i := n.ino) (by omega)
          obtain ⟨k', q1, q2, q3⟩ := ht.ex m hm x hx
          have : k' = n := inos_inj hg.inos q1 hn (q2.trans e)
          subst this
          exact ⟨by rw [(q3 hk2).1]; exact hin m hm, fun e => absurd e g⟩
      rw [if_neg (by omega), if_pos hk2]
      simp only [Bool.true_and, Bool.and_eq_true, Bool.or_eq_true, Bool.not_eq_true', decide_eq_true_eq, decide_eq_false_iff_not]
      refine ⟨⟨by omega, by omega⟩, ⟨⟨⟨hkl.2, by rw [hpg]; rfl⟩, hkl.1⟩, hup.1⟩, ?_⟩
      by_cases g : n.ino = 1
      · exact .inr (hup.2 g)
      · exact .inl g
  · unfold rightL
    rw [List.all_eq_true]
    intro i hi
    have hi' := List.mem_range.1 hi
    have hx : n.names[i]? = some n.names[i] := List.getElem?_eq_getElem hi'
    rw [hx]
    have hxm : n.names[i] ∈ n.names := List.getElem_mem hi'
    obtain ⟨k', q1, q2, -⟩ := ht.ex n hn _ hxm
    have hpk := hg.pos k' q1
    unfold stepB
    simp only [Bool.and_eq_true, Bool.or_eq_true, decide_eq_true_eq]
    refine ⟨⟨⟨ht.nmc n hn _ hxm, by omega⟩, by omega⟩, ?_⟩
    by_cases g : i = 0
    · exact .inl g
    · right
      have hy : n.names[i - 1]? = some (n.names[i - 1]'(by omega)) := List.getElem?_eq_getElem (by omega)
      rw [hy]
      have hs := ht.srt n hn
      unfold Srt at hs
      exact List.pairwise_iff_getElem.1 hs (i - 1) i (by omega) hi' (by omega)
/-- How often each node is named is what it says. -/
theorem right_times {k : Nat} {s : St} (hg : Good k s) (ht : Tr (fun _ => 0) s) : ∀ n ∈ s.L, (n.kind = 1 → timesL s.L n.ino = n.links) ∧ (n.kind = 2 → n.ino ≠ 1 → timesL s.L n.ino = 1 ∧ withinS s n.ino 1 = true) := by
  intro n hn
  have hct := ht.ct n hn
  refine ⟨fun hk => ?_, fun hk h1 => ⟨?_, withinS_iff.2 (ht.anc n hn hk)⟩⟩
  · rw [if_neg (by omega)] at hct; omega
  · rw [if_pos hk, if_neg h1] at hct; omega
/-- What stays right behind deeds whose references are their own. -/
theorem right_apply {k : Nat} {s : St} (hg : Good k s) (hk : k ≤ 2 ^ 19) (ht : Tr (fun _ => 0) s) {m : Int} (hm : 0 ≤ m) (hr : Rfs m s) (e : Effect) : Tr (fun _ => 0) (applyS s e (m + 1)).1 ∧ Rfs (m + 1) (applyS s e (m + 1)).1 := by
  refine ⟨tree_apply hg hk ht e _, ?_⟩
  unfold applyS
  split
  · rename_i he
    cases hd : doesS s e (m + 1) with
    | none => exact hr.mono (by omega)
    | some R => exact refs_does hg hk hm hr he hd
  · exact hr.mono (by omega)
theorem refs_st0 : Rfs 0 st0 := by
  refine ⟨fun n hn => ?_, fun a ha b hb hab => ?_⟩
  · simp [st0] at hn; subst hn; exact ⟨List.nodup_nil, fun r hr => by cases hr⟩
  · simp [st0] at ha hb; subst ha hb; exact absurd rfl hab
end Go.Proofs.YtdfjfagljngciaaGreat
