/- The reference's state: what has a name loses it; a rename. The reference's state: a rename. -/
import Derived.Test.YtdfjfagljngciaaGreatRe
set_option linter.all false
set_option maxRecDepth 100000
set_option maxHeartbeats 4000000
namespace Go.Proofs.YtdfjfagljngciaaGreat
open Go.RowKit Rx Go.MapKept

theorem Good.kindS {k : Nat} {s : St} (h : Good k s) {i : Int} : (getL s.L i).isSome = true ↔ kindS s i ≠ 0 := by
  unfold Go.Proofs.YtdfjfagljngciaaGreat.kindS dirN
  cases hg : getL s.L i with
  | none => simp [node0]
  | some n =>
    have := (h.ok n (getL_some hg).1).kd
    simp
    rcases this with q | q
    · rw [q.1]; decide
    · rw [q.1]; decide
theorem Good.pos1 {k : Nat} {s : St} (h : Good k s) {i : Int} (hi : (getL s.L i).isSome = true) : 1 ≤ i := by
  obtain ⟨x, hx⟩ := Option.isSome_iff_exists.1 hi
  obtain ⟨h1, rfl⟩ := getL_some hx
  exact (h.pos x h1).1
theorem findN_no {l : List Entry} {nm : ByteArray} (h : (findN l nm).2 = false) : (findN l nm).1 = 0 := by
  rcases findN_place l nm with ⟨-, q⟩ | ⟨i, x, -, -, -, q⟩
  · rw [q]
  · rw [q] at h; cases h
theorem findN_yes {l : List Entry} {nm : ByteArray} (h : (findN l nm).2 = true) : ∃ x ∈ l, x.name = nm ∧ (findN l nm).1 = x.ino := by
  rcases findN_place l nm with ⟨-, q⟩ | ⟨i, x, -, q1, q2, q⟩
  · rw [q] at h; cases h
  · exact ⟨x, List.mem_of_getElem? q1, q2, by rw [q]⟩
theorem Good.found {k : Nat} {s : St} (h : Good k s) {dir : Int} {nm : ByteArray} (hd : isDir s dir = true) : (findN (dirN s dir).names nm).2 = true ↔ (findN (dirN s dir).names nm).1 ≠ 0 := by
  constructor
  · intro q
    obtain ⟨x, hx, -, e⟩ := findN_yes q
    have := ((h.node (isDir_some hd).1).1.nm x hx).2
    omega
  · intro q
    cases hf : (findN (dirN s dir).names nm).2
    · exact absurd (findN_no hf) q
    · rfl
/-- The reference's test is the program's. -/
theorem may_iff {k : Nat} {s : St} (h : Good k s) {dir ino kind : Int} {nm : ByteArray} (hk : kind = 1 ∨ kind = 2) :
    mayS s dir nm ino kind = (decide (namedS s dir nm = ino) && decide (kindS s ino = kind) && !decide (ino = 0) && (decide (kind = 1) || (decide ((dirN s ino).names.length = 0) && !decide (ino = 1)))) := by
  rw [Bool.eq_iff_iff]
  unfold mayS namedS
  simp only [Bool.and_eq_true, Bool.or_eq_true, decide_eq_true_eq, Bool.not_eq_true', decide_eq_false_iff_not]
  constructor
  · rintro ⟨⟨⟨⟨⟨h1, h2⟩, h3⟩, h4⟩, h5⟩, h6⟩
    have := h.pos1 h4
    rw [if_pos h1]
    exact ⟨⟨⟨h3, h5⟩, by omega⟩, h6⟩
  · rintro ⟨⟨⟨h1, h2⟩, h3⟩, h4⟩
    split at h1
    · rename_i hd
      have hs : (getL s.L ino).isSome = true := h.kindS.2 (by rw [h2]; rcases hk with q | q <;> rw [q] <;> decide)
      exact ⟨⟨⟨⟨⟨hd, (h.found hd).2 (by omega)⟩, h1⟩, hs⟩, h2⟩, h4⟩
    · omega
theorem idx_setL {L : List Node} {i : Nat} {x n : Node} (hg : (getL L n.ino).isSome = true) (hx : L[i]? = some x) : (setL L n)[i]? = some (if x.ino = n.ino then n else x) := by
  rw [setL_len hg, List.getElem?_map, hx]; rfl
theorem ref_off (X : Nat → Prop) (b : Nat) (v : Value) (s : St) (k : Nat) (hg : Good k s) (hk : k ≤ 2 ^ 19) (dir : Int) (nm : ByteArray) (ino kind : Int) (hkd : kind = 1 ∨ kind = 2) (w : World) (h : RAt w X b v s) :
    Calls Tryz.prog 94 #[.pointer (some ⟨b, 0, none⟩), .int .i64 dir, .string nm, .int .i64 ino, .int .i64 kind] w fun r w' => r = .returned (.bool (mayS s dir nm ino kind)) ∧
      ∃ v', RAt w' (fun k => X k ∨ ownB v' = some k) b v' (if mayS s dir nm ino kind = true then offS s dir nm ino else s) ∧ Step (fun k => k = b ∨ ownB v = some k) w w' ∧ ∀ g, ownB v' = some g → ownB v = some g ∨ w.heap.size ≤ g := by
  have hl : s.L.length ≤ 2 ^ 20 := Nat.le_trans hg.len (by omega)
  have hl40 : s.L.length ≤ 2 ^ 40 := Nat.le_trans hl (by decide)
  have hn39 : ∀ n ∈ s.L, n.names.length ≤ 2 ^ 39 := fun n q => Nat.le_trans (hg.ok n q).len (Nat.le_trans hk (by decide))
  have no : ∀ w', Keep w w' → ∃ v', RAt w' (fun k => X k ∨ ownB v' = some k) b v' s ∧ Step (fun k => k = b ∨ ownB v = some k) w w' ∧ ∀ g, ownB v' = some g → ownB v = some g ∨ w.heap.size ≤ g := fun w' kw => by
    have h' := h.keep kw
    exact ⟨v, ⟨h'.hb, h'.ho.mono (fun j _ q => q.elim id (h.xv j)), fun j q => .inr q, .inl h.xb, fun j q => q.elim (h'.xl j) (fun q => h'.xl j (h.xv j q))⟩, kw.any, fun g q => .inl q⟩
  have hmay := may_iff hg (dir := dir) (ino := ino) (nm := nm) hkd
  generalize mayS s dir nm ino kind = mb at hmay ⊢
  have nos : ∀ w', Keep w w' → ∀ u : St, ∃ v', RAt w' (fun k => X k ∨ ownB v' = some k) b v' (if false = true then u else s) ∧ Step (fun k => k = b ∨ ownB v = some k) w w' ∧ ∀ g, ownB v' = some g → ownB v = some g ∨ w.heap.size ≤ g := fun w' kw u => by rw [if_neg (by simp)]; exact no w' kw
  refine calls_rx h94 Tryz.func94 rfl Tryz.mixed (by kernel_rfl) Tryz.results94 ?_
  simp -dsimp [go_sem]
  refine (ref_named X b v s dir nm hl40 w h).mono ?_; rintro _ w1 ⟨rfl, k1⟩; refine ret_intro ?_
  simp -dsimp [go_sem]
  by_cases p1 : namedS s dir nm = ino
  rotate_left
  · obtain rfl : mb = false := by rw [hmay]; simp [p1]
    simp -dsimp [go_sem, p1]
    exact no _ k1
  simp -dsimp [go_sem, p1]
  have h1 := h.keep k1
  refine (ref_kind X b v s ino hl40 w1 h1).mono ?_; rintro _ w2 ⟨rfl, k2⟩; refine ret_intro ?_
  have k12 := Keep.trans k1 k2
  have h2 := h1.keep k2
  by_cases p2 : kindS s ino = kind
  rotate_left
  · obtain rfl : mb = false := by rw [hmay]; simp [p2]
    simp -dsimp [go_sem, p1, p2]
    exact no _ k12
  by_cases p3 : ino = 0
  · obtain rfl : mb = false := by rw [hmay]; simp [p3]
    simp -dsimp [go_sem, p1, p2, p3]
    exact no _ k12
  have hsome : (getL s.L ino).isSome = true := hg.kindS.2 (by rw [p2]; rcases hkd with q | q <;> rw [q] <;> decide)
  have hdir : isDir s dir = true := by
    unfold namedS at p1
    split at p1
    · assumption
    · exact absurd p1.symm p3
  simp -dsimp [go_sem, p1, p2, p3]
  refine (ref_At X b v s ino hl40 w2 h2).mono ?_; rintro _ w3 ⟨rfl, k3⟩; refine ret_intro ?_
  have h3 := h2.keep k3
  have k13 := Keep.trans k12 k3
  rcases at_cases s.L ino with ⟨e1, e2⟩ | ⟨i, x, e1, e2, e3⟩
  · rw [e2] at hsome; cases hsome
  rw [e1]
  have hxi := (getL_some e3).2
  have hi := (List.getElem?_eq_some_iff.1 e2).1
  have i2 : (i : Int) < s.L.length := by omega
  have hdn : dirN s ino = x := dirN_some e3
  have hdx : (dirN s dir).ino = dir := (hg.node (isDir_some hdir).1).2.1
  rcases hkd with rfl | rfl
  · -- a file
    have hkx : x.kind = 1 := by rw [← hdn]; exact p2
    simp -dsimp [go_sem]
    refine (ref_cut X b v s dir nm hl40 hg.srt hn39 hdir w3 h3).mono ?_; rintro _ w4 ⟨⟨u, rfl⟩, h4, s4⟩; refine ret_intro ?_
    obtain rfl : mb = true := by rw [hmay]; simp [p1, p2, p3]
    have hne : (dirN s dir).ino ≠ x.ino := fun q => by
      have h1 := (isDir_some hdir).2
      rw [show dirN s dir = x from inos_inj hg.inos (hg.node (isDir_some hdir).1).2.2 (List.mem_of_getElem? e2) q] at h1
      omega
    have hsd : (getL s.L (dirN s dir).ino).isSome = true := by rw [hdx]; exact (isDir_some hdir).1
    have e4 : (setL s.L { dirN s dir with names := (dropE (dirN s dir).names nm).1 })[i]? = some x := by
      rw [idx_setL (n := { dirN s dir with names := (dropE (dirN s dir).names nm).1 }) hsd e2, if_neg (fun q => hne q.symm)]
    have hgo := good_offL hg (nm := nm) hdir
    have hoff : offS s dir nm ino = ⟨setL (offL s dir nm) { x with links := x.links - 1 }, s.last⟩ := by
      have hgl : getL (offL s dir nm) ino = some x := by
        rw [getL_offL (hg.fine hk) dir nm hdir, if_neg (fun q => hne (by rw [hdx, q, hxi])), e3]
      unfold offS
      rw [hgl]
      simp only [Option.getD_some]
      rw [if_neg (by omega)]
    have hoL : setL s.L { dirN s dir with names := (dropE (dirN s dir).names nm).1 } = offL s dir nm := rfl
    rw [hoL] at h4 e4
    have hlk := (hg.ok x (List.mem_of_getElem? e2)).l0
    have hlk1 := (hg.ok x (List.mem_of_getElem? e2)).l1
    have e5 : IntKind.i64.wrap (x.links - 1) = x.links - 1 := IntWalk.i64_in _ (by omega)
    obtain ⟨g, off, c', p, m, rfl, hgs, hgo', hok, hp, hm, c0, c1, c2, c3, c4, c5, c6, hf, hset⟩ := h4.ho.node h4.xv e4
    have H4 := h4.hb
    have i3 : i < (offL s dir nm).length := (List.getElem?_eq_some_iff.1 e4).1
    have i4 : (i : Int) < (offL s dir nm).length := by omega
    have H4c := blk_cell H4; have H4f := blk_free H4; have H4l := blk_lt H4
    simp -dsimp [go_sem, H4c, H4f, H4l, hgs, hi, i2, i3, i4, c2, e5, hf]
    have hy : rNode.R X w4 { x with links := x.links - 1 } ((x.enc p m).set 2 (.int .i64 (x.links - 1))) := ⟨p, m, rfl, hp, hm, hok.1, hok.2.1, ⟨by show _ ≤ x.links - 1; omega, by show x.links - 1 ≤ _; omega⟩, hok.2.2.2.1, hok.2.2.2.2⟩
    have hw := hset 2 _ _ (by decide) hy
    rw [set_setL hgo.srt e4 (y := { x with links := x.links - 1 }) rfl] at hw
    have hgb := h4.ne hgo'
    have hgX := h4.xv g hgo'
    rw [hoff]
    refine ⟨_, ⟨blk_far H4 (fun q => hgb q.symm) _, hw.mono (fun j _ q => q.elim id (h4.xv j)), fun j q => .inr q, .inl h4.xb, fun j q => ?_⟩, ?_, fun j q => .inl q⟩
    · have : j < w4.heap.size := q.elim (h4.xl j) (fun q => h4.xl j (h4.xv j q))
      simp [World.setCell]; omega
    · exact Step.set (Step.trans (O := fun j => j = b ∨ ownB _ = some j) (Keep.any k13) s4 (fun j _ q => .inr q)) (.inl (.inr hgo')) _
  · have hkx : x.kind = 2 := by rw [← hdn]; exact p2
    obtain ⟨g, off, c', p, m, rfl, hgs, hgo, hok, hp, hm, c0, c1, c2, c3, c4, c5, c6, hf, -⟩ := h3.ho.node h.xv e2
    obtain ⟨ma, mc, rfl, -⟩ := id hm
    have H3 := h3.hb
    have H3c := blk_cell H3; have H3f := blk_free H3; have H3l := blk_lt H3
    simp -dsimp [go_sem, H3c, H3f, H3l, hgs, hi, i2, c6]
    by_cases p4 : x.names.length = 0 ∧ ¬ ino = 1
    rotate_left
    · obtain rfl : mb = false := by
        rw [hmay, hdn]
        by_cases q : x.names.length = 0
        · have : ino = 1 := Classical.byContradiction fun q' => p4 ⟨q, q'⟩
          simp [this]
        · simp [q]
      have p5 : (decide (0 < x.names.length) || decide (ino = 1)) = true := by
        by_cases q : x.names.length = 0
        · have : ino = 1 := Classical.byContradiction fun q' => p4 ⟨q, q'⟩
          simp [this]
        · have : 0 < x.names.length := by omega
          simp [this]
      simp -dsimp [go_sem, p5]
      exact no _ k13
    obtain ⟨p4a, p4b⟩ := p4
    obtain rfl : mb = true := by rw [hmay, hdn]; simp [p1, p2, p3, p4a, p4b]
    have p5 : (decide (0 < x.names.length) || decide (ino = 1)) = false := by simp [p4a, p4b]
    simp -dsimp [go_sem, p5]
    refine (ref_cut X b _ s dir nm hl40 hg.srt hn39 hdir w3 h3).mono ?_; rintro _ w4 ⟨⟨u, rfl⟩, h4, s4⟩; refine ret_intro ?_
    simp -dsimp [go_sem]
    have hoL : setL s.L { dirN s dir with names := (dropE (dirN s dir).names nm).1 } = offL s dir nm := rfl
    rw [hoL] at h4
    have hgo' := good_offL hg (nm := nm) hdir
    have hsd : (getL s.L (dirN s dir).ino).isSome = true := by rw [hdx]; exact (isDir_some hdir).1
    have hoff : offS s dir nm ino = ⟨delL (offL s dir nm) ino, s.last⟩ := by
      have hk2 : ((getL (offL s dir nm) ino).getD node0).kind = 2 := by
        rw [getL_offL (hg.fine hk) dir nm hdir]
        split
        · exact (isDir_some hdir).2
        · rw [e3]; exact hkx
      unfold offS
      rw [if_pos hk2]
    have hso : (getL (offL s dir nm) ino).isSome = true := getL_setL hsome
    refine (ref_remove X b _ ⟨offL s dir nm, s.last⟩ ino (Nat.le_trans hgo'.len (by omega)) hgo'.srt hso w4 h4).mono ?_
    rintro _ w5 ⟨⟨u5, rfl⟩, v', h5, s5, b5⟩
    refine ret_intro ?_
    simp -dsimp [go_sem]
    have l4 := s4.size
    have l3 := k13.size
    rw [hoff]
    refine ⟨v', h5, (Step.trans (O := fun j => j = b ∨ ownB _ = some j) (Keep.any k13) s4 (fun j _ q => .inr q)).trans s5 (fun j _ q => q), fun j q => (b5 j q).imp id (fun q => by omega)⟩
end Go.Proofs.YtdfjfagljngciaaGreat

set_option linter.all false
set_option maxRecDepth 100000
set_option maxHeartbeats 4000000
namespace Go.Proofs.YtdfjfagljngciaaGreat
open Go.RowKit Rx Go.MapKept

theorem off_facts {s : St} (hf : Fine s) {dir to ino og kind : Int} {nm other : ByteArray} (g1 : isDir s dir = true) (g4 : isDir s to = true) (g5 : (getL s.L ino).isSome = true) (g2 : (findN (dirN s dir).names nm).2 = true)
    (gt : (findN (dirN s to).names other).2 = true) (go : og ≠ ino) (hmy : mayS s to other og kind = true) : isDir (offS s to other og) dir = true ∧ isDir (offS s to other og) to = true ∧ (getL (offS s to other og).L ino).isSome = true := by
  have hdn : (dirN s dir).names ≠ [] := findN_ne (nm := nm) g2
  have htn : (dirN s to).names ≠ [] := findN_ne (nm := other) gt
  have hog := (mayS_dir hmy).2
  have hside : (dirN s og).kind ≠ 2 ∨ (dirN s og).names = [] := by
    unfold mayS at hmy
    simp only [Bool.and_eq_true, Bool.or_eq_true, decide_eq_true_eq] at hmy
    rcases hmy.2 with q | ⟨q, -⟩
    · left; rw [hmy.1.2, q]; decide
    · right; exact List.length_eq_zero_iff.1 q
  refine ⟨isDir_off hf g4 g1 hog ?_, isDir_off hf g4 g4 hog ?_, ?_⟩
  · rcases hside with q | q
    · exact .inr q
    · left; intro q'; rw [← q'] at q; exact hdn q
  · rcases hside with q | q
    · exact .inr q
    · left; intro q'; rw [← q'] at q; exact htn q
  · rw [getL_off hf g4 hog (fun q => go q.symm)]
    split
    · rfl
    · exact g5
theorem rename_ref {k : Nat} {s : St} (hg : Good k s) (e : Effect) : renameS s e =
    if kindS s e.ino ≠ 0 ∧ namedS s e.dir e.name = e.ino ∧ kindS s e.to = 2 ∧ ¬ (kindS s e.ino = 2 ∧ withinS s e.to e.ino = true) then
      (if namedS s e.to e.other = 0 then some (moveS s e (kindS s e.ino)) else if namedS s e.to e.other = e.ino ∨ mayS s e.to e.other (namedS s e.to e.other) (kindS s e.ino) = false then none else some (moveS (offS s e.to e.other (namedS s e.to e.other)) e (kindS s e.ino)))
    else none := by
  unfold renameS
  simp only
  rw [show (dirN s e.ino).kind = kindS s e.ino from rfl]
  have hc : (isDir s e.dir = true ∧ (findN (dirN s e.dir).names e.name).2 = true ∧ (findN (dirN s e.dir).names e.name).1 = e.ino ∧ isDir s e.to = true ∧ (getL s.L e.ino).isSome = true ∧ ¬ (kindS s e.ino = 2 ∧ withinS s e.to e.ino = true)) ↔
      (kindS s e.ino ≠ 0 ∧ namedS s e.dir e.name = e.ino ∧ kindS s e.to = 2 ∧ ¬ (kindS s e.ino = 2 ∧ withinS s e.to e.ino = true)) := by
    constructor
    · rintro ⟨h1, h2, h3, h4, h5, h6⟩
      exact ⟨hg.kindS.1 h5, by unfold namedS; rw [if_pos h1]; exact h3, by have := kindS_dir s e.to; rw [h4] at this; simpa using this, h6⟩
    · rintro ⟨h1, h2, h3, h4⟩
      have h5 := hg.kindS.2 h1
      have hp := hg.pos1 h5
      unfold namedS at h2
      split at h2
      · rename_i hd
        exact ⟨hd, (hg.found hd).2 (by omega), h2, by rw [← kindS_dir]; exact decide_eq_true h3, h5, h4⟩
      · omega
  by_cases g : kindS s e.ino ≠ 0 ∧ namedS s e.dir e.name = e.ino ∧ kindS s e.to = 2 ∧ ¬ (kindS s e.ino = 2 ∧ withinS s e.to e.ino = true)
  · rw [if_pos g, if_pos (hc.2 g)]
    have hto := (hc.2 g).2.2.2.1
    have hn : namedS s e.to e.other = (findN (dirN s e.to).names e.other).1 := by unfold namedS; rw [if_pos hto]
    rw [hn]
    by_cases h0 : (findN (dirN s e.to).names e.other).1 = 0
    · rw [if_pos h0, if_neg (fun q => (hg.found hto).1 q h0)]
    · rw [if_neg h0, if_pos ((hg.found hto).2 h0)]
  · rw [if_neg g, if_neg (fun q => g (hc.1 q))]
theorem ref_rename (X : Nat → Prop) (b : Nat) (v : Value) (s : St) (k : Nat) (hg : Good k s) (hk : k < 2 ^ 19) (e : Effect) (hok : e.ok) (hn : nameC e.other = 0) (a : Option Addr) (c : Nat) (w : World) (h : RAt w X b v s) :
    Calls Tryz.prog 95 #[.pointer (some ⟨b, 0, none⟩), .agg (e.enc (.slice a e.data.length c)).toArray] w fun r w' => r = .returned (.bool (renameS s e).isSome) ∧
      ∃ v', RAt w' (fun k => X k ∨ ownB v' = some k) b v' ((renameS s e).getD s) ∧ Step (fun k => k = b ∨ ownB v = some k) w w' ∧ ∀ g, ownB v' = some g → ownB v = some g ∨ w.heap.size ≤ g := by
  obtain ⟨o1, o2, o3, o4, o5, o6⟩ := hok
  have hl40 : s.L.length ≤ 2 ^ 40 := Nat.le_trans hg.len (by omega)
  have hRR := rename_ref hg e
  generalize renameS s e = RR at hRR ⊢
  have no : ∀ w', Keep w w' → ∃ v', RAt w' (fun k => X k ∨ ownB v' = some k) b v' s ∧ Step (fun k => k = b ∨ ownB v = some k) w w' ∧ ∀ g, ownB v' = some g → ownB v = some g ∨ w.heap.size ≤ g := fun w' kw => by
    have h' := h.keep kw
    exact ⟨v, ⟨h'.hb, h'.ho.mono (fun j _ q => q.elim id (h.xv j)), fun j q => .inr q, .inl h.xb, fun j q => q.elim (h'.xl j) (fun q => h'.xl j (h.xv j q))⟩, kw.any, fun g q => .inl q⟩
  refine calls_rx h95 Tryz.func95 rfl Tryz.mixed (by kernel_rfl) Tryz.results95 ?_
  unfold Effect.enc
  simp -dsimp [go_sem]
  generalize hW : w.alloc _ = W
  obtain ⟨E0, k0, z0⟩ := alloc1 hW
  clear hW
  have h0 := h.keep k0
  have E0c := blk_cell E0; have E0f := blk_free E0; have E0l := blk_lt E0
  try simp -dsimp [go_sem, E0c, E0f, E0l]
  refine (ref_kind X b v s e.ino hl40 W h0).mono ?_; rintro _ w1 ⟨rfl, k1⟩; refine ret_intro ?_
  have h1 := h0.keep k1
  have k01 := Keep.trans k0 k1
  have E1 := k1.blk E0 (fun q => q)
  clear E0c E0f E0l
  have E1c := blk_cell E1; have E1f := blk_free E1; have E1l := blk_lt E1
  generalize hkd : kindS s e.ino = kd at hRR
  have d1 : Agree w1 w1.drew := agree_drew (Agree.refl _)
  try simp -dsimp [go_sem, E1c, E1f, E1l]
  refine join_intro (σ := Unit) (fun _ => []) (fun _ w' => Keep w1 w' ∧ kd ≠ 0 ∧ namedS s e.dir e.name = e.ino ∧ kindS s e.to = 2 ∧ ¬ (kd = 2 ∧ withinS s e.to e.ino = true)) (by simp -dsimp [go_sem]; rfl) ?_ ?_
  · by_cases p0 : kd = 0
    · obtain rfl : RR = none := by rw [hRR, if_neg (fun q => q.1 p0)]
      simp -dsimp [go_sem, p0, E1c, E1f, E1l]
      exact ⟨d1, no _ (Keep.trans k01 (keep_drew w1))⟩
    simp -dsimp [go_sem, p0, E1c, E1f, E1l]
    refine (ref_named X b v s e.dir e.name hl40 w1.drew (h1.keep (keep_drew w1))).mono ?_; rintro _ w2 ⟨rfl, k2⟩; refine ret_intro ?_
    have k12 := Keep.trans (keep_drew w1) k2
    refine ⟨Keep.agree k12 (Agree.refl _), ?_⟩
    have h2 := h1.keep k12
    have k02 := Keep.trans k01 k12
    by_cases p1 : namedS s e.dir e.name = e.ino
    rotate_left
    · obtain rfl : RR = none := by rw [hRR, if_neg (fun q => p1 q.2.1)]
      simp -dsimp [go_sem, p0, p1, E1c, E1f, E1l]
      exact ⟨Keep.agree k12 (Agree.refl _), no _ k02⟩
    simp -dsimp [go_sem, p0, p1, E1c, E1f, E1l]
    refine (ref_kind X b v s e.to hl40 w2 h2).mono ?_; rintro _ w3 ⟨rfl, k3⟩; refine ret_intro ?_
    have k13 := Keep.trans k12 k3
    have h3 := h2.keep k3
    have k03 := Keep.trans k02 k3
    refine ⟨Keep.agree k13 (Agree.refl _), ?_⟩
    by_cases p2 : kindS s e.to = 2
    rotate_left
    · obtain rfl : RR = none := by rw [hRR, if_neg (fun q => p2 q.2.2.1)]
      simp -dsimp [go_sem, p0, p1, p2, E1c, E1f, E1l]
      exact ⟨Keep.agree k13 (Agree.refl _), no _ k03⟩
    by_cases p3 : kd = 2
    · have dd : decide (kd = 2) = true := decide_eq_true p3
      simp -dsimp [go_sem, p0, p1, p2, dd, E1c, E1f, E1l]
      refine (ref_Within X b v s e.to e.ino hl40 w3 h3).mono ?_; rintro _ w5 ⟨rfl, k5⟩; refine ret_intro ?_
      have k15 := Keep.trans k13 k5
      cases hw : withinS s e.to e.ino
      · simp -dsimp [go_sem]
        refine ⟨Keep.agree k15 (Agree.refl _), ?_⟩
        refine meet_intro () (by simp -dsimp [go_sem]) (by simp -dsimp [go_sem]) ?_
        first | exact k15 | exact ⟨k15, by simp [p0, p1, p2, p3, hw]⟩ | exact ⟨k15, p0, p1, p2, by simp [hw]⟩
      · obtain rfl : RR = none := by rw [hRR, if_neg (fun q => q.2.2.2 ⟨p3, hw⟩)]
        simp -dsimp [go_sem]
        exact ⟨Keep.agree k15 (Agree.refl _), no _ (Keep.trans k03 k5)⟩
    · simp -dsimp [go_sem, p0, p1, p2, p3, E1c, E1f, E1l]
      refine ⟨Keep.agree k13 (Agree.refl _), ?_⟩
      refine meet_intro () (by simp -dsimp [go_sem]) (by simp -dsimp [go_sem]) ?_
      first | exact k13 | exact ⟨k13, by simp [p0, p1, p2, p3]⟩ | exact ⟨k13, p0, p1, p2, fun q => p3 q.1⟩
  rintro _ w2 ⟨k12, p0, p1, p2, p3⟩
  rw [if_pos ⟨p0, p1, p2, p3⟩] at hRR
  have h2 := h1.keep k12
  have k02 := Keep.trans k01 k12
  have E2 := k12.blk E1 (fun q => q)
  clear E1c E1f E1l
  have E2c := blk_cell E2; have E2f := blk_free E2; have E2l := blk_lt E2
  have hZ : w.heap.size < w2.heap.size := E2l
  have hbX : b < w.heap.size := h.xl b h.xb
  have hgk := hg.fine (by omega : k ≤ 2 ^ 19)
  have hdir : isDir s e.dir = true ∧ (findN (dirN s e.dir).names e.name).2 = true := by
    have h5 := hg.kindS.2 (by rw [hkd]; exact p0)
    have hp := hg.pos1 h5
    unfold namedS at p1
    split at p1
    · rename_i hd; exact ⟨hd, (hg.found hd).2 (by omega)⟩
    · omega
  have hto : isDir s e.to = true := by rw [← kindS_dir]; exact decide_eq_true p2
  have hsome : (getL s.L e.ino).isSome = true := hg.kindS.2 (by rw [hkd]; exact p0)
  have hkd2 : kd = 1 ∨ kd = 2 := by
    rw [← hkd]
    rcases (hg.node hsome).1.kd with q | q
    · exact .inl q.1
    · exact .inr q.1
  try simp -dsimp [go_sem, E2c, E2f, E2l]
  refine join_intro (σ := St × Value) (fun _ => []) (fun t w' => RAt w' (fun k => X k ∨ ownB t.2 = some k) b t.2 t.1 ∧ Step (fun k => k = b ∨ ownB v = some k) w w' ∧ (∀ g, ownB t.2 = some g → ownB v = some g ∨ w.heap.size ≤ g) ∧ w'.heap[w.heap.size]? = w2.heap[w.heap.size]? ∧ ownB t.2 ≠ some w.heap.size ∧
    RR = some (moveS t.1 e kd) ∧ Good (k + 1) t.1 ∧ isDir t.1 e.dir = true ∧ isDir t.1 e.to = true ∧ (getL t.1.L e.ino).isSome = true) (by simp -dsimp [go_sem]; rfl) ?_ ?_
  · simp -dsimp [go_sem, E2c, E2f, E2l]
    refine (ref_named X b v s e.to e.other hl40 w2 h2).mono ?_; rintro _ w4 ⟨rfl, k4⟩; refine ret_intro ?_
    generalize hold : namedS s e.to e.other = old at hRR
    have h4 := h2.keep k4
    have k04 := Keep.trans k02 k4
    have hvn : ownB v ≠ some w.heap.size := fun q => by have := h.xl _ (h.xv _ q); omega
    have hb4 : w4.heap[w.heap.size]? = w2.heap[w.heap.size]? := k4.block _ hZ (fun q => q)
    by_cases q0 : old = 0
    · rw [if_pos q0] at hRR
      simp -dsimp [go_sem, q0]
      exact meet_intro (s, v) (by simp -dsimp [go_sem]) (by simp -dsimp [go_sem]) ⟨⟨h4.hb, h4.ho.mono (fun j _ q => q.elim id (h.xv j)), fun j q => .inr q, .inl h.xb, fun j q => q.elim (h4.xl j) (fun q => h4.xl j (h.xv j q))⟩, k04.any, fun g q => .inl q, hb4, hvn, hRR, hg.mono (by omega), hdir.1, hto, hsome⟩
    rw [if_neg q0] at hRR
    have E4 := k4.blk E2 (fun q => q)
    clear E2c E2f E2l
    have E4c := blk_cell E4; have E4f := blk_free E4; have E4l := blk_lt E4
    by_cases q1 : old = e.ino
    · obtain rfl : RR = none := by rw [hRR, if_pos (.inl q1)]
      have q01 : ¬ e.ino = 0 := fun q => q0 (q1.trans q)
      simp -dsimp [go_sem, q01, q0, q1, E4c, E4f, E4l]
      exact no _ k04
    simp -dsimp [go_sem, q0, q1, E4c, E4f, E4l]
    refine (ref_off X b v s k hg (by omega) e.to e.other old kd hkd2 w4 h4).mono ?_; rintro _ w5 ⟨rfl, v5, h5, s5, b5⟩; refine ret_intro ?_
    have s05 : Step (fun k => k = b ∨ ownB v = some k) w w5 := Step.trans (O := fun k => k = b ∨ ownB v = some k) (Keep.any k04) s5 (fun j _ q => q)
    have l04 := k04.size
    have b05 : ∀ g, ownB v5 = some g → ownB v = some g ∨ w.heap.size ≤ g := fun g q => (b5 g q).imp id (fun q => by omega)
    cases hm : mayS s e.to e.other old kd
    · obtain rfl : RR = none := by rw [hRR, if_pos (.inr hm)]
      rw [hm, if_neg (by simp)] at h5
      simp -dsimp [go_sem]
      exact ⟨v5, h5, s05, b05⟩
    · rw [hm, if_pos rfl] at h5
      rw [if_neg (by rintro (q | q); exact q1 q; rw [hm] at q; cases q)] at hRR
      have hog := (mayS_dir hm).2
      have gt : (findN (dirN s e.to).names e.other).2 = true := by
        rw [hg.found hto]
        unfold namedS at hold
        rw [if_pos hto] at hold
        rw [hold]; exact q0
      obtain ⟨f1, f2, f3⟩ := off_facts hgk hdir.1 hto hsome hdir.2 gt q1 hm
      simp -dsimp [go_sem]
      exact meet_intro (offS s e.to e.other old, v5) (by simp -dsimp [go_sem]) (by simp -dsimp [go_sem]) ⟨h5, s05, b05, (s5.block _ E4l (fun q => q.elim (fun q => by omega) (fun q => hvn q))).trans hb4, fun q => (b5 _ q).elim hvn (fun q => by have := E4l; omega), hRR, good_offS hg hto hog, f1, f2, f3⟩
  rintro ⟨s1, v1⟩ w3 ⟨h3, s3, b3, e3, nb3, hR, g3, d3, t3, i3⟩
  simp only at h3 b3 nb3 hR g3 d3 t3 i3
  subst hR
  rw [← e3] at E2
  clear E2c E2f E2l
  have E2c := blk_cell E2; have E2f := blk_free E2; have E2l := blk_lt E2
  simp -dsimp [go_sem, E2c, E2f, E2l]
  have hl3 : s1.L.length ≤ 2 ^ 40 := Nat.le_trans g3.len (by omega)
  have hn3 : ∀ n ∈ s1.L, n.names.length ≤ 2 ^ 38 := fun n q => Nat.le_trans (g3.ok n q).len (by omega)
  refine (ref_cut _ b v1 s1 e.dir e.name hl3 g3.srt (fun n q => Nat.le_trans (hn3 n q) (by decide)) d3 w3 h3).mono ?_; rintro _ w4 ⟨⟨u4, rfl⟩, h4, s4⟩; refine ret_intro ?_
  have g4 : Good (k + 1) ⟨setL s1.L { dirN s1 e.dir with names := (dropE (dirN s1 e.dir).names e.name).1 }, s1.last⟩ := good_offL g3 (nm := e.name) d3
  have t4 : isDir ⟨setL s1.L { dirN s1 e.dir with names := (dropE (dirN s1 e.dir).names e.name).1 }, s1.last⟩ e.to = true := kind_set g3 t3 (fun _ => (isDir_some d3).2)
  have i4 : (getL (setL s1.L { dirN s1 e.dir with names := (dropE (dirN s1 e.dir).names e.name).1 }) e.ino).isSome = true := isSome_set i3
  unfold moveS
  simp only
  generalize setL s1.L { dirN s1 e.dir with names := (dropE (dirN s1 e.dir).names e.name).1 } = L2 at h4 g4 t4 i4 ⊢
  have hl4 : L2.length ≤ 2 ^ 40 := Nat.le_trans g4.len (by omega)
  have hE : ∀ w', Step (fun k => k = b ∨ ownB v1 = some k) w3 w' → w'.heap[w.heap.size]? = w3.heap[w.heap.size]? := fun w' hs => hs.block _ E2l (fun q => q.elim (fun q => by omega) (fun q => nb3 q))
  have E4 := (hE w4 (s4.mono (fun j _ q => .inr q))).trans E2
  clear E2c E2f
  have E4c := blk_cell E4; have E4f := blk_free E4; have E4l := blk_lt E4
  simp -dsimp [go_sem, E4c, E4f, E4l]
  refine (ref_put _ b v1 ⟨L2, s1.last⟩ e.to e.other e.ino o2 hl4 g4.srt (fun n q => Nat.le_trans (g4.ok n q).len (by omega)) t4 w4 h4).mono ?_; rintro _ w5 ⟨⟨u5, rfl⟩, h5, s5⟩; refine ret_intro ?_
  have s35 := s4.both s5
  have hL3s : (setL L2 { dirN ⟨L2, s1.last⟩ e.to with names := (putE (dirN ⟨L2, s1.last⟩ e.to).names e.other e.ino).1 }).Pairwise (fun a b => a.ino < b.ino) := by
    obtain ⟨q1, q2, q3⟩ := g4.node (isDir_some t4).1
    have hso : (getL L2 (dirN ⟨L2, s1.last⟩ e.to).ino).isSome = true := by rw [q2]; exact (isDir_some t4).1
    rw [setL_len (n := { dirN ⟨L2, s1.last⟩ e.to with names := (putE (dirN ⟨L2, s1.last⟩ e.to).names e.other e.ino).1 }) hso, ← List.pairwise_map (f := fun x : Node => x.ino) (R := fun a b => a < b), map_inos, List.pairwise_map]
    exact g4.srt
  have hL3l : (setL L2 { dirN ⟨L2, s1.last⟩ e.to with names := (putE (dirN ⟨L2, s1.last⟩ e.to).names e.other e.ino).1 }).length ≤ 2 ^ 40 := by
    obtain ⟨q1, q2, q3⟩ := g4.node (isDir_some t4).1
    have hso : (getL L2 (dirN ⟨L2, s1.last⟩ e.to).ino).isSome = true := by rw [q2]; exact (isDir_some t4).1
    rw [setL_len (n := { dirN ⟨L2, s1.last⟩ e.to with names := (putE (dirN ⟨L2, s1.last⟩ e.to).names e.other e.ino).1 }) hso, List.length_map]; exact hl4
  have i5 : (getL (setL L2 { dirN ⟨L2, s1.last⟩ e.to with names := (putE (dirN ⟨L2, s1.last⟩ e.to).names e.other e.ino).1 }) e.ino).isSome = true := isSome_set i4
  generalize setL L2 { dirN ⟨L2, s1.last⟩ e.to with names := (putE (dirN ⟨L2, s1.last⟩ e.to).names e.other e.ino).1 } = L3 at h5 hL3s hL3l i5 ⊢
  have E5 := (hE w5 (s35.mono (fun j _ q => .inr q))).trans E2
  clear E4c E4f E4l
  have fin : ∀ w', Step (fun j => ownB v1 = some j) w3 w' → Step (fun k => k = b ∨ ownB v = some k) w w' := fun w' hs => s3.trans hs (fun j hj q => (b3 j q).elim .inr (fun q => by omega))
  by_cases q2 : kd = 2
  rotate_left
  · rw [if_neg q2]
    simp -dsimp [go_sem, q2]
    exact ⟨v1, h5, fin _ s35, b3⟩
  rw [if_pos q2]
  have dd : decide (kd = 2) = true := decide_eq_true q2
  have H5 := h5.hb
  have E5c := blk_cell E5; have E5f := blk_free E5; have E5l := blk_lt E5; have H5c := blk_cell H5; have H5f := blk_free H5; have H5l := blk_lt H5
  simp -dsimp [go_sem, dd, E5c, E5f, E5l, H5c, H5f, H5l]
  refine (ref_At _ b v1 ⟨L3, s1.last⟩ e.ino hL3l w5.drew (h5.keep (keep_drew w5))).mono ?_; rintro _ w6 ⟨rfl, k6⟩; refine ret_intro ?_
  have k56 := Keep.trans (keep_drew w5) k6
  refine ⟨Keep.agree k56 (Agree.refl _), ?_⟩
  have h6 := h5.keep k56
  have H6 := h6.hb
  have E6 := k56.blk E5 (fun q => q)
  rcases at_cases L3 e.ino with ⟨a1, a2⟩ | ⟨i, x, a1, a2, a3⟩
  · rw [a2] at i5; cases i5
  simp only
  rw [a1, dirN_some (s := ⟨L3, s1.last⟩) a3]
  have hi := (List.getElem?_eq_some_iff.1 a2).1
  have hi2 : (i : Int) < L3.length := by omega
  obtain ⟨g, off, c', p, m, rfl, hgs, hgo', hok', hp, hm, c0, c1, c2, c3, c4, c5, c6, hf, hset⟩ := h6.ho.node h6.xv a2
  clear E5c E5f E5l H5c H5f H5l
  have E6c := blk_cell E6; have E6f := blk_free E6; have E6l := blk_lt E6; have H6c := blk_cell H6; have H6f := blk_free H6; have H6l := blk_lt H6
  simp -dsimp [go_sem, E6c, E6f, E6l, H6c, H6f, H6l, hgs, hi, hi2, hf, c4]
  have hy : rNode.R _ w6 { x with up := e.to } ((x.enc p m).set 4 (.int .i64 e.to)) := ⟨p, m, rfl, hp, hm, hok'.1, hok'.2.1, hok'.2.2.1, hok'.2.2.2.1, by first | exact o4 | exact o3⟩
  have hw := hset 4 _ _ (by decide) hy
  rw [set_setL hL3s a2 (y := { x with up := e.to }) rfl] at hw
  have hgb := h6.ne hgo'
  have hxl := h6.xl
  have hxv := h6.xv
  have sF : Step (fun j => ownB (.slice (some ⟨g, off, none⟩) L3.length c') = some j) w3 (w6.setCell ⟨g, off + i * 7 + 4, none⟩ (.int .i64 e.to)) := Step.set (s35.then k56) (.inl hgo') _
  refine ⟨_, ⟨blk_far H6 (fun q => hgb q.symm) _, hw, hxv, h6.xb, fun j q => ?_⟩, fin _ sF, b3⟩
  have := hxl j q
  simp [World.setCell]; omega
end Go.Proofs.YtdfjfagljngciaaGreat
