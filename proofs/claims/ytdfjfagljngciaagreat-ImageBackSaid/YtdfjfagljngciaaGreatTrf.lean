/- Plain laws of states: behind any effect names tell links still. -/
import Derived.Test.YtdfjfagljngciaaGreatTre
set_option linter.all false
set_option maxRecDepth 100000
set_option maxHeartbeats 4000000
namespace Go.Proofs.YtdfjfagljngciaaGreat
open Go.RowKit Rx Go.MapKept

theorem set_new_comm {L : List Node} {d n : Node} (hd : (getL L d.ino).isSome = true) (hn : getL L n.ino = none) : setL (setL L d) n = setL (setL L n) d := by
  have hne : d.ino ≠ n.ino := fun e => by rw [e, hn] at hd; cases hd
  have hno : getL (setL L d) n.ino = none := by
    refine getL_no fun x hx q => ?_
    rcases mem_setL.1 hx with rfl | ⟨q1, -⟩
    · exact hne q
    · exact getL_none hn x q1 q
  have hds : (getL (L ++ [n]) d.ino).isSome = true := by
    obtain ⟨y, hy⟩ := Option.isSome_iff_exists.1 hd
    unfold getL at hy ⊢
    rw [List.find?_append, hy]; rfl
  rw [setL_new hno, setL_new hn, setL_len hd, setL_len hds, List.map_append]
  simp
  exact fun e => absurd e.symm hne
theorem set_comm {L : List Node} {a b : Node} (ha : (getL L a.ino).isSome = true) (hb : (getL L b.ino).isSome = true) (hne : a.ino ≠ b.ino) : setL (setL L a) b = setL (setL L b) a := by
  rw [setL_len (getL_setL hb), setL_len (getL_setL ha), setL_len ha, setL_len hb, List.map_map, List.map_map]
  apply List.map_congr_left
  intro x _
  simp only [Function.comp]
  by_cases g1 : x.ino = a.ino
  · have g2 : ¬ x.ino = b.ino := fun e => hne (g1.symm.trans e)
    rw [if_pos g1, if_neg g2, if_pos g1, if_neg hne]
  · by_cases g2 : x.ino = b.ino
    · rw [if_neg g1, if_pos g2, if_neg (fun e => hne e.symm)]
    · rw [if_neg g1, if_neg g2, if_neg g1]
theorem put_new {l : List Entry} {nm : ByteArray} {ino : Int} (h : (putE l nm ino).2 = true) : (putE l nm ino).1 = insE l nm ino ∧ ∀ x ∈ l, x.name ≠ nm := by
  unfold putE at h ⊢
  split at h
  · cases h
  · rename_i g
    rw [if_neg g]
    refine ⟨rfl, fun x hx e => g ?_⟩
    unfold hasE
    rw [List.any_eq_true]
    exact ⟨x, hx, by simpa using e⟩
theorem find_mem {l : List Entry} {nm : ByteArray} (h : (findN l nm).2 = true) : ∃ x ∈ l, x.name = nm ∧ x.ino = (findN l nm).1 := by
  unfold findN at h ⊢
  cases hf : l.find? (fun x => decide (x.name = nm)) with
  | none => rw [hf] at h; cases h
  | some x => exact ⟨x, List.mem_of_find?_eq_some hf, by simpa using List.find?_some hf, rfl⟩
theorem inos_setL' {L : List Node} (h : Inos L) (n : Node) : Inos (setL L n) := inos_setL h n
theorem Tr.z {s : St} {P : Int → Int} (h : Tr P s) (hP : ∀ i, P i = 0) : Tr (fun _ => 0) s := h.congr (fun n _ => hP n.ino)
/-- A name more. -/
theorem Tr.put {P : Int → Int} {s : St} (h : Tr P s) (hI : Inos s.L) {d : Node} (hd : d ∈ s.L) (hk : d.kind = 2) {nm : ByteArray} (hc : nameC nm = 0) (hn : ∀ x ∈ d.names, x.name ≠ nm) {j : Int} (hj : ∃ k ∈ s.L, k.ino = j ∧ (k.kind = 2 → k.up = d.ino ∧ k.ino ≠ 1)) :
    Tr (fun i => P i - if j = i then 1 else 0) ⟨setL s.L { d with names := insE d.names nm j }, s.last⟩ := by
  refine h.upd hI hd rfl rfl rfl (srt_ins (h.srt d hd) hn) (fun x hx => ?_) (fun e => by omega) (fun e => h.kl d hd e) (fun x hx => ?_) (fun i => ?_)
  · rcases mem_insE.1 hx with rfl | q
    · exact hc
    · exact h.nmc d hd x q
  · rcases mem_insE.1 hx with rfl | q
    · exact .inr hj
    · exact .inl q
  · rw [if_neg (fun q => by have := q.2; omega : ¬ (i = d.ino ∧ d.kind = 1))]
    show _ = P i + cntE d.names i - cntE (insE d.names nm j) i + 0
    rw [cnt_ins]; omega
/-- A name less. -/
theorem Tr.cut {P : Int → Int} {s : St} (h : Tr P s) (hI : Inos s.L) {d : Node} (hd : d ∈ s.L) (hk : d.kind = 2) {nm : ByteArray} {x : Entry} (hx : x ∈ d.names) (hn : x.name = nm) :
    Tr (fun i => P i + if x.ino = i then 1 else 0) ⟨setL s.L { d with names := (dropE d.names nm).1 }, s.last⟩ := by
  refine h.upd hI hd rfl rfl rfl (srt_drop (h.srt d hd) nm) (fun y hy => h.nmc d hd y (List.mem_filter.1 hy).1) (fun e => by omega) (fun e => h.kl d hd e) (fun y hy => .inl (List.mem_filter.1 hy).1) (fun i => ?_)
  rw [if_neg (fun q => by have := q.2; omega : ¬ (i = d.ino ∧ d.kind = 1))]
  show _ = P i + cntE d.names i - cntE (dropE d.names nm).1 i + 0
  rw [cnt_drop (h.srt d hd) hx hn]; omega
/-- A file's links. -/
theorem Tr.links {P : Int → Int} {s : St} (h : Tr P s) (hI : Inos s.L) {n : Node} (hn : n ∈ s.L) (hk : n.kind = 1) (l : Int) :
    Tr (fun i => P i + if i = n.ino then l - n.links else 0) ⟨setL s.L { n with links := l }, s.last⟩ := by
  refine h.upd hI hn rfl rfl rfl (h.srt n hn) (h.nmc n hn) (fun e => (h.kf n hn e).1) (fun e => by omega) (fun y hy => .inl hy) (fun i => ?_)
  by_cases g : i = n.ino
  · rw [if_pos g, if_pos ⟨g, hk⟩]; show _ = P i + cntE n.names i - cntE n.names i + (l - n.links); omega
  · rw [if_neg g, if_neg (fun q => g q.1)]; show _ = P i + cntE n.names i - cntE n.names i + 0; omega
/-- A file's pages and size. -/
theorem Tr.pages {P : Int → Int} {s : St} (h : Tr P s) (hI : Inos s.L) {n n' : Node} (hn : n ∈ s.L) (hk : n.kind = 1) (h1 : n'.ino = n.ino) (h2 : n'.kind = n.kind) (h3 : n'.up = n.up) (h4 : n'.names = n.names) (h5 : n'.links = n.links) : Tr P ⟨setL s.L n', s.last⟩ := by
  refine h.upd hI hn h1 h2 h3 (by rw [h4]; exact h.srt n hn) (by rw [h4]; exact h.nmc n hn) (fun e => by rw [h4]; exact (h.kf n hn e).1) (fun e => by omega) (fun y hy => .inl (h4 ▸ hy)) (fun i => ?_)
  rw [h4, h5]
  split <;> omega
theorem dirN_mem {k : Nat} {s : St} (hg : Good k s) {i : Int} (h : isDir s i = true) : dirN s i ∈ s.L ∧ (dirN s i).ino = i ∧ (dirN s i).kind = 2 := by
  obtain ⟨h1, h2⟩ := isDir_some h
  obtain ⟨-, q2, q3⟩ := hg.node h1
  exact ⟨q3, q2, h2⟩
theorem fileN_mem {k : Nat} {s : St} (hg : Good k s) {i : Int} (h : isFile s i = true) : dirN s i ∈ s.L ∧ (dirN s i).ino = i ∧ (dirN s i).kind = 1 := by
  obtain ⟨h1, h2⟩ := isFile_some h
  obtain ⟨-, q2, q3⟩ := hg.node h1
  exact ⟨q3, q2, h2⟩
theorem tree_make {k : Nat} {s t : St} (hg : Good k s) (ht : Tr (fun _ => 0) s) {e : Effect} (hc : nameC e.name = 0) (hp : e.page = 1 ∨ e.page = 2) (h : makeS s e = some t) : Tr (fun _ => 0) t := by
  unfold makeS at h
  simp only at h
  split at h
  · rename_i g
    obtain ⟨g1, g2, g3⟩ := g
    simp only [Option.some.injEq] at h
    subst h
    obtain ⟨d1, d2, d3⟩ := dirN_mem hg g1
    obtain ⟨p1, p2⟩ := put_new g2
    have l0 := hg.l0
    have hno : getL s.L (newN e.ino e.page e.dir).ino = none := getL_no fun x hx q => by have := hg.pos x hx; have q' : x.ino = e.ino := q; omega
    have h1 := ht.add hg.inos (n := newN e.ino e.page e.dir) hno hp rfl (fun q => by show (if e.page = 2 then e.dir else 0) = 0; rw [if_neg (by have q' : e.page = 1 := q; omega)]) (fun q => ⟨rfl, rfl, by show isDir s (if e.page = 2 then e.dir else 0) = true; rw [if_pos (show e.page = 2 from q)]; exact g1⟩) s.last
    have hI1 : Inos (setL s.L (newN e.ino e.page e.dir)) := inos_setL hg.inos _
    have hdm : dirN s e.dir ∈ setL s.L (newN e.ino e.page e.dir) := mem_setL.2 (.inr ⟨d1, getL_none hno _ d1⟩)
    have h2 := h1.put hI1 hdm d3 hc p2 (j := e.ino) ⟨newN e.ino e.page e.dir, mem_setL.2 (.inl rfl), rfl, fun q => ⟨by show (if e.page = 2 then e.dir else 0) = _; rw [if_pos (show e.page = 2 from q), d2], by show e.ino ≠ 1; omega⟩⟩
    rw [p1, set_new_comm (by show (getL s.L (dirN s e.dir).ino).isSome = true; rw [d2]; exact (isDir_some g1).1) hno]
    refine h2.congr (fun n hn => ?_)
    show (if n.ino = e.ino then (if e.page = 2 then (1 : Int) else 1) else 0) - (if e.ino = n.ino then 1 else 0) = 0
    by_cases q : n.ino = e.ino
    · rw [if_pos q, if_pos q.symm]; split <;> rfl
    · rw [if_neg q, if_neg (fun z => q z.symm)]; rfl
  · cases h
theorem tree_link {k : Nat} {s t : St} (hg : Good k s) (ht : Tr (fun _ => 0) s) {e : Effect} (hc : nameC e.name = 0) (h : linkS s e = some t) : Tr (fun _ => 0) t := by
  unfold linkS at h
  simp only at h
  split at h
  · rename_i g
    obtain ⟨g1, g2, g3, g4, g5⟩ := g
    simp only [Option.some.injEq] at h
    subst h
    obtain ⟨d1, d2, d3⟩ := dirN_mem hg g1
    obtain ⟨f1, f2, f3⟩ := fileN_mem hg g2
    obtain ⟨p1, p2⟩ := put_new g3
    have h1 := ht.put hg.inos d1 d3 hc p2 (j := e.ino) ⟨dirN s e.ino, f1, f2, fun q => by omega⟩
    have hI1 : Inos (setL s.L { dirN s e.dir with names := insE (dirN s e.dir).names e.name e.ino }) := inos_setL hg.inos _
    have hfm : dirN s e.ino ∈ setL s.L { dirN s e.dir with names := insE (dirN s e.dir).names e.name e.ino } := mem_setL.2 (.inr ⟨f1, fun q => by
      have := inos_inj hg.inos f1 d1 q
      rw [this] at f3; omega⟩)
    have h2 := h1.links hI1 hfm f3 ((dirN s e.ino).links + 1)
    rw [p1]
    refine h2.congr (fun n hn => ?_)
    show (0 : Int) - (if e.ino = n.ino then 1 else 0) + (if n.ino = (dirN s e.ino).ino then (dirN s e.ino).links + 1 - (dirN s e.ino).links else 0) = 0
    rw [f2]
    by_cases q : n.ino = e.ino
    · rw [if_pos q.symm, if_pos q]; omega
    · rw [if_neg (fun z => q z.symm), if_neg q]; omega
  · cases h
theorem tree_off {k : Nat} {s : St} (hg : Good k s) (ht : Tr (fun _ => 0) s) {dir : Int} {nm : ByteArray} {ino kind : Int} (h : mayS s dir nm ino kind = true) : Tr (fun _ => 0) (offS s dir nm ino) := by
  unfold mayS at h
  simp only [Bool.and_eq_true, Bool.or_eq_true, decide_eq_true_eq, Bool.not_eq_true', decide_eq_false_iff_not] at h
  obtain ⟨⟨⟨⟨⟨g1, g2⟩, g3⟩, g4⟩, g5⟩, g6⟩ := h
  obtain ⟨d1, d2, d3⟩ := dirN_mem hg g1
  obtain ⟨x, x1, x2, x3⟩ := find_mem g2
  rw [g3] at x3
  have h1 := ht.cut hg.inos d1 d3 x1 x2
  have hI1 : Inos (offL s dir nm) := inos_setL hg.inos _
  obtain ⟨-, n2, n3⟩ := hg.node g4
  have hne : ino ≠ dir := fun e => by
    rcases g6 with q | ⟨q, -⟩
    · rw [e, d3] at g5; omega
    · rw [e] at q
      have : (dirN s dir).names = [] := List.length_eq_zero_iff.1 q
      rw [this] at x1; cases x1
  have hnm : dirN s ino ∈ offL s dir nm := mem_setL.2 (.inr ⟨n3, fun q => hne (by rw [← n2, q]; exact d2)⟩)
  have hget : getL (offL s dir nm) ino = some (dirN s ino) := by
    have := getL_mem hI1 hnm
    rw [n2] at this; exact this
  unfold offS
  rw [hget, Option.getD_some]
  rw [x3] at h1
  rcases ht.kd _ n3 with hk | hk
  · rw [if_neg (by omega)]
    have h2 := h1.links hI1 hnm hk ((dirN s ino).links - 1)
    refine h2.congr (fun n hn => ?_)
    show (0 : Int) + (if ino = n.ino then 1 else 0) + (if n.ino = (dirN s ino).ino then (dirN s ino).links - 1 - (dirN s ino).links else 0) = 0
    rw [n2]
    by_cases q : n.ino = ino
    · rw [if_pos q.symm, if_pos q]; omega
    · rw [if_neg (fun z => q z.symm), if_neg q]; omega
  · rw [if_pos hk]
    have g6' : (dirN s ino).names.length = 0 ∧ ¬ ino = 1 := by
      rcases g6 with q | q
      · omega
      · exact q
    have hnn : (dirN s ino).names = [] := List.length_eq_zero_iff.1 g6'.1
    have hct := h1.ct _ hnm
    rw [if_pos hk, n2, if_neg g6'.2] at hct
    have hct' : timesL (offL s dir nm) ino + (0 + if ino = ino then 1 else 0) = 1 := hct
    rw [if_pos rfl] at hct'
    have h0 : timesL (offL s dir nm) (dirN s ino).ino = 0 := by rw [n2]; omega
    have h2 := h1.del hI1 hnm hnn h0 (by rw [n2]; exact g6'.2) (fun _ i hi => by
      rw [n2] at hi
      show (0 : Int) + (if ino = i then 1 else 0) = 0
      rw [if_neg (fun z => hi z.symm)]; rfl)
    rw [n2] at h2
    refine h2.congr (fun n hn => ?_)
    show (if n.ino = ino then (0 : Int) else 0 + if ino = n.ino then 1 else 0) = 0
    by_cases q : n.ino = ino
    · rw [if_pos q]
    · rw [if_neg q, if_neg (fun z => q z.symm)]; rfl
theorem tree_pages {k : Nat} {s t : St} (hg : Good k s) (ht : Tr (fun _ => 0) s) {e : Effect} {ref : Int} {gone : List Int} (h : truncS s e = some (t, gone) ∨ writeS s e ref = some (t, gone)) : Tr (fun _ => 0) t := by
  rcases h with h | h
  · unfold truncS at h
    split at h
    · rename_i g
      simp only [Option.some.injEq, Prod.mk.injEq] at h
      obtain ⟨rfl, -⟩ := h
      obtain ⟨f1, f2, f3⟩ := fileN_mem hg g
      refine ht.pages hg.inos f1 f3 (resizeN_ino _ _) ?_ ?_ (resizeN_names _ _) ?_ <;> (unfold resizeN; simp only; repeat' split) <;> rfl
    · cases h
  · unfold writeS at h
    split at h
    · rename_i g
      simp only [Option.some.injEq, Prod.mk.injEq] at h
      obtain ⟨rfl, -⟩ := h
      obtain ⟨f1, f2, f3⟩ := fileN_mem hg g.1
      refine ht.pages hg.inos f1 f3 ?_ ?_ ?_ ?_ ?_ <;> (unfold putN resizeN; simp only; repeat' split) <;> rfl
    · cases h
theorem tree_drop {k : Nat} {s t : St} (hg : Good k s) (ht : Tr (fun _ => 0) s) {e : Effect} {gone : List Int} (h : dropS s e = some (t, gone)) : Tr (fun _ => 0) t := by
  unfold dropS at h
  split at h
  · rename_i g
    simp only [Option.some.injEq, Prod.mk.injEq] at h
    obtain ⟨rfl, -⟩ := h
    obtain ⟨f1, f2, f3⟩ := fileN_mem hg g.1
    have hct := ht.ct _ f1
    rw [if_neg (by omega)] at hct
    have hnn := times_nn s.L (dirN s e.ino).ino
    have h2 := ht.del hg.inos f1 (ht.kf _ f1 f3).1 (by have := g.2; omega) (fun q => by
      obtain ⟨r, r1, r2⟩ := isDir_iff.1 ht.root
      rw [f2] at q
      rw [q, dirN_some r1] at f3
      omega) (fun _ _ _ => rfl)
    rw [f2] at h2
    exact h2.congr (fun n hn => by show (if n.ino = e.ino then (0 : Int) else 0) = 0; split <;> rfl)
  · cases h
/-- What a name's node is called where it goes to, and where it comes from. -/
theorem tree_moveS {k : Nat} {s : St} (hg : Good k s) (ht : Tr (fun _ => 0) s) {e : Effect} (hc : nameC e.other = 0) (h1 : isDir s e.dir = true) (h2 : isDir s e.to = true) (h3 : (getL s.L e.ino).isSome = true) (h4 : (findN (dirN s e.dir).names e.name).2 = true) (h5 : (findN (dirN s e.dir).names e.name).1 = e.ino)
    (h6 : ¬ ((dirN s e.ino).kind = 2 ∧ withinS s e.to e.ino = true)) (h7 : ∀ x ∈ (dirN s e.to).names, x.name = e.other → e.dir = e.to ∧ e.name = e.other) : Tr (fun _ => 0) (moveS s e (dirN s e.ino).kind) := by
  obtain ⟨d1, d2, d3⟩ := dirN_mem hg h1
  obtain ⟨t1, t2, t3⟩ := dirN_mem hg h2
  obtain ⟨-, n2, n3⟩ := hg.node h3
  obtain ⟨x, x1, x2, x3⟩ := find_mem h4
  rw [h5] at x3
  have c1 := ht.cut hg.inos d1 d3 x1 x2
  rw [x3] at c1
  unfold moveS
  simp only
  have hI2 : Inos (setL s.L { dirN s e.dir with names := (dropE (dirN s e.dir).names e.name).1 }) := inos_setL hg.inos _
  have hgd : getL s.L (dirN s e.dir).ino = some (dirN s e.dir) := getL_mem hg.inos d1
  have hget2 : ∀ j, getL (setL s.L { dirN s e.dir with names := (dropE (dirN s e.dir).names e.name).1 }) j = if (dirN s e.dir).ino = j then some { dirN s e.dir with names := (dropE (dirN s e.dir).names e.name).1 } else getL s.L j := fun j => getL_set hg.inos _ j
  generalize hL2 : setL s.L { dirN s e.dir with names := (dropE (dirN s e.dir).names e.name).1 } = L2 at c1 hI2 hget2 ⊢
  rw [d2] at hget2
  -- directories stay where they are
  have same1 : ∀ j, isDir s j = true → isDir ⟨L2, s.last⟩ j = true ∧ (dirN ⟨L2, s.last⟩ j).up = (dirN s j).up := fun j hj => by
    obtain ⟨y, q1, q2⟩ := isDir_iff.1 hj
    have hj2 := hget2 j
    by_cases g : e.dir = j
    · rw [if_pos g] at hj2
      rw [isDir_get (s := ⟨L2, s.last⟩) hj2, dirN_some (s := ⟨L2, s.last⟩) hj2, ← g]
      exact ⟨by simpa using d3, rfl⟩
    · rw [if_neg g, q1] at hj2
      rw [isDir_get (s := ⟨L2, s.last⟩) hj2, dirN_some (s := ⟨L2, s.last⟩) hj2, dirN_some q1]
      exact ⟨by simpa using q2, rfl⟩
  have same2 : ∀ j, isDir ⟨L2, s.last⟩ j = true → isDir s j = true ∧ (dirN s j).up = (dirN ⟨L2, s.last⟩ j).up := fun j hj => by
    have : isDir s j = true := by
      obtain ⟨y, q1, q2⟩ := isDir_iff.1 hj
      have hj2 := hget2 j
      by_cases g : e.dir = j
      · rw [← g]; exact h1
      · rw [if_neg g] at hj2
        exact isDir_iff.2 ⟨y, by rw [← hj2]; exact q1, q2⟩
    exact ⟨this, (same1 j this).2.symm⟩
  obtain ⟨kn, kn1, kn2, kn3⟩ := ht.ex _ d1 x x1
  have hkn : kn = dirN s e.ino := inos_inj hg.inos kn1 n3 (kn2.trans (x3.trans n2.symm))
  subst hkn
  have hindir : e.ino ≠ e.dir := fun q => by
    rw [q] at kn3
    obtain ⟨u1, u2⟩ := kn3 d3
    rw [d2] at u1 u2
    have ha := ht.anc _ d1 d3
    rw [d2] at ha
    generalize hi : e.dir = i at ha u1 u2
    cases ha with
    | refl => exact u2 rfl
    | up _ r2 _ => exact r2 u1
  have hgi : getL L2 e.ino = some (dirN s e.ino) := by
    rw [hget2, if_neg (fun q => hindir q.symm)]
    have := getL_mem hg.inos n3
    rw [n2] at this; exact this
  have hni : dirN s e.ino ∈ L2 := (getL_some hgi).1
  -- the node that it goes to
  obtain ⟨T, hT, hTk, hTn, hTi⟩ : ∃ T, getL L2 e.to = some T ∧ T.kind = 2 ∧ (∀ y ∈ T.names, y.name ≠ e.other) ∧ T.ino = e.to := by
    by_cases g : e.dir = e.to
    · refine ⟨{ dirN s e.dir with names := (dropE (dirN s e.dir).names e.name).1 }, by rw [hget2, if_pos g], d3, fun y hy q => ?_, by rw [← g]; exact d2⟩
      have hy2 := List.mem_filter.1 hy
      obtain ⟨-, q3⟩ := h7 y (by rw [← g]; exact hy2.1) q
      have := hy2.2
      simp only [Bool.not_eq_true', decide_eq_false_iff_not] at this
      exact this (q.trans q3.symm)
    · refine ⟨dirN s e.to, ?_, t3, fun y hy q => g (h7 y hy q).1, t2⟩
      rw [hget2, if_neg g]
      have := getL_mem hg.inos t1
      rw [t2] at this; exact this
  have hTm := (getL_some hT).1
  rw [dirN_some (s := ⟨L2, s.last⟩) hT]
  have hput : (putE T.names e.other e.ino).1 = insE T.names e.other e.ino := by
    unfold putE
    have : ¬ hasE T.names e.other = true := fun q => by
      unfold hasE at q
      obtain ⟨y, hy, hy2⟩ := List.any_eq_true.1 q
      exact hTn y hy (by simpa using hy2)
    rw [if_neg this]
  rw [hput]
  rcases ht.kd _ n3 with hk | hk
  · rw [if_neg (by omega)]
    have c2 := c1.put hI2 hTm hTk hc hTn (j := e.ino) ⟨dirN s e.ino, hni, n2, fun q => by omega⟩
    refine c2.congr (fun n hn => ?_)
    show (0 : Int) + (if e.ino = n.ino then 1 else 0) - (if e.ino = n.ino then 1 else 0) = 0
    omega
  · rw [if_pos hk]
    obtain ⟨u1, u2⟩ := kn3 hk
    rw [n2] at u2
    have hwn : ¬ Wi s e.ino e.to := fun q => h6 ⟨hk, withinS_iff.2 q⟩
    have hto : e.to ≠ e.ino := fun q => hwn (by rw [q]; exact .refl)
    have hct := c1.ct _ hni
    rw [if_pos hk, n2, if_neg u2] at hct
    have hct' : timesL L2 e.ino + (0 + if e.ino = e.ino then 1 else 0) = 1 := hct
    rw [if_pos rfl] at hct'
    have hw1 : Wi ⟨L2, s.last⟩ 1 e.to := by
      have := ht.anc _ t1 t3
      rw [t2] at this
      exact this.same same1
    have c2 := c1.move hI2 hni hk (by rw [n2]; exact u2) (by rw [n2]; show timesL L2 e.ino = 0; omega) hw1 (by rw [n2]; exact fun q => hwn (q.same same2))
    have hI3 : Inos (setL L2 { dirN s e.ino with up := e.to }) := inos_setL hI2 _
    have hTm3 : T ∈ setL L2 { dirN s e.ino with up := e.to } := mem_setL.2 (.inr ⟨hTm, by show T.ino ≠ (dirN s e.ino).ino; rw [hTi, n2]; exact hto⟩)
    have c3 := c2.put hI3 hTm3 hTk hc hTn (j := e.ino) ⟨{ dirN s e.ino with up := e.to }, mem_setL.2 (.inl rfl), n2, fun _ => ⟨hTi.symm, by show (dirN s e.ino).ino ≠ 1; rw [n2]; exact u2⟩⟩
    have hgi3 : getL (setL L2 { T with names := insE T.names e.other e.ino }) e.ino = some (dirN s e.ino) := by
      rw [getL_set hI2, if_neg (by show ¬ T.ino = e.ino; rw [hTi]; exact hto), hgi]
    rw [dirN_some (s := ⟨setL L2 { T with names := insE T.names e.other e.ino }, s.last⟩) hgi3]
    rw [set_comm (a := { T with names := insE T.names e.other e.ino }) (b := { dirN s e.ino with up := e.to }) (by show (getL L2 T.ino).isSome = true; rw [hTi, hT]; rfl) (by show (getL L2 (dirN s e.ino).ino).isSome = true; rw [n2, hgi]; rfl) (by show T.ino ≠ (dirN s e.ino).ino; rw [hTi, n2]; exact hto)]
    refine c3.congr (fun n hn => ?_)
    show (0 : Int) + (if e.ino = n.ino then 1 else 0) - (if e.ino = n.ino then 1 else 0) = 0
    omega
theorem find_drop {nm other : ByteArray} (hne : nm ≠ other) : ∀ (l : List Entry), findN (dropE l other).1 nm = findN l nm
  | [] => rfl
  | x :: l => by
    have ih := find_drop hne l
    rw [drop_cons]
    unfold findN at ih ⊢
    by_cases g : x.name = other
    · rw [if_pos g, List.find?_cons, show decide (x.name = nm) = false from decide_eq_false (fun q => hne (q.symm.trans g))]
      exact ih
    · rw [if_neg g, List.find?_cons, List.find?_cons]
      cases decide (x.name = nm)
      · exact ih
      · rfl
theorem find_no {l : List Entry} {nm : ByteArray} (h : (findN l nm).2 = false) : ∀ x ∈ l, x.name ≠ nm := fun x hx e => by
  unfold findN at h
  cases hf : l.find? (fun x => decide (x.name = nm)) with
  | none => have := List.find?_eq_none.1 hf x hx; simp [e] at this
  | some y => rw [hf] at h; cases h
theorem find_one {l : List Entry} (h : Srt l) {nm : ByteArray} {x : Entry} (hx : x ∈ l) (hn : x.name = nm) : findN l nm = (x.ino, true) := by
  cases hf : (findN l nm).2 with
  | false => exact absurd hn (find_no hf x hx)
  | true =>
    obtain ⟨y, y1, y2, y3⟩ := find_mem hf
    have := srt_apart h hx y1 (hn.trans y2.symm)
    subst this
    exact Prod.ext y3.symm hf
theorem tree_rename {k : Nat} {s t : St} (hg : Good k s) (hk : k ≤ 2 ^ 19) (ht : Tr (fun _ => 0) s) {e : Effect} (hc : nameC e.other = 0) (h : renameS s e = some t) : Tr (fun _ => 0) t := by
  have hf := hg.fine hk
  obtain ⟨s1, rfl, g1, g2, g3, g4, g5, g6, g7, g8, g9, g10⟩ := rename_mid hf h
  rcases g7 with ⟨q, rfl⟩ | ⟨og, q1, q2, q3, q4, rfl⟩
  · exact tree_moveS hg ht hc g1 g2 g3 g4 g5 g6 (fun x hx e => absurd e (find_no q x hx))
  · have ht1 := tree_off hg ht q4
    have hog := (mayS_dir q4).2
    have hg1 : Good (k + 1) (offS s e.to e.other og) := good_offS hg g2 hog
    obtain ⟨d1, d2, d3⟩ := dirN_mem hg g1
    obtain ⟨t1, t2, t3⟩ := dirN_mem hg g2
    obtain ⟨x, x1, x2, x3⟩ := find_mem g4
    obtain ⟨y, y1, y2, y3⟩ := find_mem q1
    have hm := q4
    unfold mayS at hm
    simp only [Bool.and_eq_true, Bool.or_eq_true, decide_eq_true_eq] at hm
    obtain ⟨⟨⟨-, -⟩, m1⟩, m2⟩ := hm
    have hdog : e.dir ≠ og := fun q => by
      rcases m2 with r | ⟨r, -⟩
      · rw [← q, d3] at m1; omega
      · rw [← q] at r
        rw [List.length_eq_zero_iff.1 r] at x1; cases x1
    have htog : e.to ≠ og := fun q => by
      rcases m2 with r | ⟨r, -⟩
      · rw [← q, t3] at m1; omega
      · rw [← q] at r
        rw [List.length_eq_zero_iff.1 r] at y1; cases y1
    have hgd := getL_off hf (nm := e.other) g2 hog hdog
    have hgt := getL_off hf (nm := e.other) g2 hog htog
    have hgi := getL_off hf (nm := e.other) g2 hog (fun q => q3 q.symm)
    rw [if_pos rfl] at hgt
    have hdt := dirN_some (s := offS s e.to e.other og) hgt
    have hfind : findN (dirN (offS s e.to e.other og) e.dir).names e.name = findN (dirN s e.dir).names e.name := by
      by_cases g : e.to = e.dir
      · rw [if_pos g] at hgd
        rw [dirN_some (s := offS s e.to e.other og) hgd, g]
        refine find_drop (fun hne => ?_) _
        have : x = y := srt_apart (ht.srt _ d1) x1 (by rw [← g]; exact y1) (by rw [x2, y2, hne])
        rw [← this, x3, g5] at y3
        exact q3 (q2.trans y3.symm)
      · rw [if_neg g] at hgd
        obtain ⟨z, z1, -⟩ := isDir_iff.1 g1
        rw [z1] at hgd
        rw [dirN_some (s := offS s e.to e.other og) hgd, dirN_some z1]
    have hkind : (dirN (offS s e.to e.other og) e.ino).kind = (dirN s e.ino).kind := by
      by_cases g : e.to = e.ino
      · rw [if_pos g] at hgi
        rw [dirN_some (s := offS s e.to e.other og) hgi, ← g]
      · rw [if_neg g] at hgi
        obtain ⟨z, z1⟩ := Option.isSome_iff_exists.1 g3
        rw [z1] at hgi
        rw [dirN_some (s := offS s e.to e.other og) hgi, dirN_some z1]
    have hIo : Inos (offL s e.to e.other) := inos_setL hg.inos _
    have same : ∀ j, isDir (offS s e.to e.other og) j = true → isDir s j = true ∧ (dirN s j).up = (dirN (offS s e.to e.other og) j).up := fun j hj => by
      obtain ⟨z, z1, z2⟩ := isDir_iff.1 hj
      by_cases g : j = og
      · -- a directory that went is none; a file is none
        subst g
        rcases m2 with r | ⟨r, -⟩
        · exfalso
          unfold offS at z1
          rw [getL_offL hf _ _ g2, if_neg htog] at z1
          obtain ⟨w, w1⟩ := Option.isSome_iff_exists.1 hog
          rw [w1, Option.getD_some] at z1
          have hwk : w.kind = 1 := by have := m1; rw [dirN_some w1] at this; omega
          rw [if_neg (by omega)] at z1
          have z1' : getL (setL (offL s e.to e.other) { w with links := w.links - 1 }) j = some z := z1
          rw [getL_set hIo, if_pos (getL_some w1).2] at z1'
          have := Option.some.inj z1'
          rw [← this] at z2
          have z2' : w.kind = 2 := z2
          omega
        · exfalso
          unfold offS at z1
          rw [getL_offL hf _ _ g2, if_neg htog] at z1
          obtain ⟨w, w1⟩ := Option.isSome_iff_exists.1 hog
          rw [w1, Option.getD_some] at z1
          rcases ht.kd _ (getL_some w1).1 with r1 | r1
          · rw [if_neg (by omega)] at z1
            have z1' : getL (setL (offL s e.to e.other) { w with links := w.links - 1 }) j = some z := z1
            rw [getL_set hIo, if_pos (getL_some w1).2] at z1'
            have := Option.some.inj z1'
            rw [← this] at z2
            have z2' : w.kind = 2 := z2
            omega
          · rw [if_pos r1] at z1
            have := (mem_delL.1 (getL_some z1).1).2
            exact this (getL_some z1).2
      · have hgj := getL_off hf (nm := e.other) g2 hog g
        by_cases gt : e.to = j
        · rw [if_pos gt] at hgj
          rw [dirN_some (s := offS s e.to e.other og) hgj, ← gt]
          exact ⟨g2, rfl⟩
        · rw [if_neg gt] at hgj
          rw [z1] at hgj
          rw [dirN_some z1, dirN_some hgj.symm]
          exact ⟨isDir_iff.2 ⟨z, hgj.symm, z2⟩, rfl⟩
    have := tree_moveS (e := e) hg1 ht1 hc g8 g9 g10 (by rw [hfind]; exact g4) (by rw [hfind]; exact g5) (fun q => g6 ⟨by rw [← hkind]; exact q.1, withinS_iff.2 ((withinS_iff.1 q.2).same same)⟩) (fun z hz hz2 => by
      rw [hdt] at hz
      have := (List.mem_filter.1 hz).2
      simp only [Bool.not_eq_true', decide_eq_false_iff_not] at this
      exact absurd hz2 this)
    rw [hkind] at this
    exact this
/-- Behind any effect names tell links still. -/
theorem tree_does {k : Nat} {s t : St} (hg : Good k s) (hk : k ≤ 2 ^ 19) (ht : Tr (fun _ => 0) s) {e : Effect} (he : effB e = true) {ref : Int} {gone : List Int} (hd : doesS s e ref = some (t, gone)) : Tr (fun _ => 0) t := by
  obtain ⟨e1, e2, e3, e4, e5, e6, e7, e8, e9⟩ := effB_place he
  unfold doesS at hd
  split at hd
  · rename_i kd
    obtain ⟨t', h, q⟩ := Option.map_eq_some_iff.1 hd
    simp only [Prod.mk.injEq] at q
    obtain ⟨rfl, -⟩ := q
    exact tree_make hg ht (e1 (.inl kd)).1 (e3 kd) h
  split at hd
  · rename_i kd
    obtain ⟨t', h, q⟩ := Option.map_eq_some_iff.1 hd
    simp only [Prod.mk.injEq] at q
    obtain ⟨rfl, -⟩ := q
    exact tree_link hg ht (e1 (.inr (.inl kd))).1 h
  split at hd
  · obtain ⟨t', h, q⟩ := Option.map_eq_some_iff.1 hd
    simp only [Prod.mk.injEq] at q
    obtain ⟨rfl, -⟩ := q
    unfold removeS at h
    by_cases g : mayS s e.dir e.name e.ino (if e.kind = 4 then 2 else 1) = true
    · rw [if_pos g] at h
      simp only [Option.some.injEq] at h
      subst h
      exact tree_off hg ht g
    · rw [if_neg g] at h; cases h
  split at hd
  · rename_i kd
    obtain ⟨t', h, q⟩ := Option.map_eq_some_iff.1 hd
    simp only [Prod.mk.injEq] at q
    obtain ⟨rfl, -⟩ := q
    exact tree_rename hg hk ht (e2 kd) h
  split at hd
  · exact tree_pages (ref := ref) hg ht (.inl hd)
  split at hd
  · exact tree_pages hg ht (.inr hd)
  · exact tree_drop hg ht hd
theorem tree_st0 : Tr (fun _ => 0) st0 := by
  have h1 : ∀ n ∈ st0.L, n = ⟨1, 2, 1, 0, 1, [], []⟩ := by simp [st0]
  refine ⟨fun n hn => ?_, fun n hn => ?_, fun n hn => ?_, fun n hn => ?_, fun n hn => ?_, fun n hn => ?_, by decide, by decide, fun n hn _ => ?_, fun n hn _ => ?_⟩
  all_goals rw [h1 n hn]
  · exact List.Pairwise.nil
  · intro x hx; cases hx
  · exact .inr rfl
  · intro q; exact absurd q (by decide)
  · intro x hx; cases hx
  · simp [timesL, sumF, st0, cntE]
  · exact .refl
  · exact ⟨rfl, rfl⟩
theorem tree_apply {k : Nat} {s : St} (hg : Good k s) (hk : k ≤ 2 ^ 19) (ht : Tr (fun _ => 0) s) (e : Effect) (ref : Int) : Tr (fun _ => 0) (applyS s e ref).1 := by
  unfold applyS
  split
  · rename_i he
    cases hd : doesS s e ref with
    | none => exact ht
    | some R => exact tree_does hg hk ht he hd
  · exact ht
end Go.Proofs.YtdfjfagljngciaaGreat
