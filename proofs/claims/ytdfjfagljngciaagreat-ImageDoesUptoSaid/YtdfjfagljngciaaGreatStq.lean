/- Plain laws of states: what an effect does, and what stays so. Plain laws of states: how great they are. Package state: an effect happens. -/
import Derived.Test.YtdfjfagljngciaaGreatStg
set_option linter.all false
set_option maxRecDepth 100000
set_option maxHeartbeats 4000000
namespace Go.Proofs.YtdfjfagljngciaaGreat
open Go.RowKit Rx Go.MapKept

def doesS (s : St) (e : Effect) (ref : Int) : Option (St × List Int) :=
  if e.kind = 1 then (makeS s e).map (fun t => (t, []))
  else if e.kind = 2 then (linkS s e).map (fun t => (t, []))
  else if e.kind = 3 ∨ e.kind = 4 then (removeS s e).map (fun t => (t, []))
  else if e.kind = 5 then (renameS s e).map (fun t => (t, []))
  else if e.kind = 6 then truncS s e
  else if e.kind = 7 then writeS s e ref
  else dropS s e
/-- A state, what is gone, the error's number. -/
def applyS (s : St) (e : Effect) (ref : Int) : St × List Int × Int :=
  if effB e = true then (doesS s e ref).elim (s, [], 93) (fun r => (r.1, r.2, 0)) else (s, [], 92)

/-- What any node is like. -/
structure NodeOk (k : Nat) (n : Node) : Prop where
  len : n.names.length ≤ k
  nm : ∀ x ∈ n.names, x.name.size ≤ 24 ∧ 1 ≤ x.ino
  l0 : -(k : Int) ≤ n.links
  l1 : n.links ≤ 16
  kd : (n.kind = 1 ∧ 0 ≤ n.size ∧ n.size ≤ 16384 ∧ n.pages.length = (needI n.size).toNat ∧ n.names = []) ∨ (n.kind = 2 ∧ n.pages = [])
/-- What any state is like behind k effects. -/
structure Good (k : Nat) (s : St) : Prop where
  srt : s.L.Pairwise (fun a b => a.ino < b.ino)
  pos : ∀ n ∈ s.L, 1 ≤ n.ino ∧ n.ino ≤ s.last
  l0 : 1 ≤ s.last
  l1 : s.last ≤ 4611686018427387904 + k + 1
  len : s.L.length ≤ k + 1
  ok : ∀ n ∈ s.L, NodeOk k n
theorem needI_le {size : Int} (h0 : 0 ≤ size) (h1 : size ≤ 16384) : (needI size).toNat ≤ 64 := by
  unfold needI
  split <;> omega
theorem NodeOk.pg {k : Nat} {n : Node} (h : NodeOk k n) : n.pages.length ≤ 64 := by
  rcases h.kd with ⟨-, h1, h2, h3, -⟩ | ⟨-, h1⟩
  · rw [h3]; exact needI_le h1 h2
  · rw [h1]; simp
theorem NodeOk.mono {k k' : Nat} {n : Node} (h : NodeOk k n) (hk : k ≤ k') : NodeOk k' n :=
  ⟨Nat.le_trans h.len hk, h.nm, by have := h.l0; omega, h.l1, h.kd⟩
theorem srt_inos {L : List Node} (h : L.Pairwise (fun a b => a.ino < b.ino)) : Inos L := by
  unfold Inos
  rw [List.Nodup, List.pairwise_map]
  exact h.imp (fun q => by omega)
theorem Good.fine {k : Nat} {s : St} (h : Good k s) (hk : k ≤ 2 ^ 19) : Fine s :=
  ⟨srt_inos h.srt, fun n hn => ⟨Nat.le_trans (h.ok n hn).pg (by decide), Nat.le_trans (h.ok n hn).len (Nat.le_trans hk (by decide))⟩,
   by have := h.l0; have := h.l1; unfold I64; omega, fun n hn => by have := (h.ok n hn).l0; have := (h.ok n hn).l1; omega⟩
theorem Good.names {k : Nat} {s : St} (h : Good k s) (hk : k ≤ 2 ^ 19) : ∀ n ∈ s.L, n.names.length < 2 ^ 20 := fun n hn =>
  Nat.lt_of_le_of_lt (h.ok n hn).len (Nat.lt_of_le_of_lt hk (by decide))
theorem Good.mono {k k' : Nat} {s : St} (h : Good k s) (hk : k ≤ k') : Good k' s :=
  ⟨h.srt, h.pos, h.l0, by have := h.l1; omega, by have := h.len; omega, fun n hn => (h.ok n hn).mono hk⟩
theorem good_st0 : Good 0 st0 := by
  refine ⟨by simp [st0], by simp [st0], by simp [st0], by simp [st0], by simp [st0], ?_⟩
  intro n hn
  simp [st0] at hn
  subst hn
  exact ⟨by simp, by simp, by simp, by simp, .inr ⟨rfl, rfl⟩⟩
theorem Good.inos {k : Nat} {s : St} (h : Good k s) : Inos s.L := srt_inos h.srt
theorem Good.node {k : Nat} {s : St} (h : Good k s) {i : Int} (hi : (getL s.L i).isSome = true) : NodeOk k (dirN s i) ∧ (dirN s i).ino = i ∧ dirN s i ∈ s.L := by
  obtain ⟨x, hx⟩ := Option.isSome_iff_exists.1 hi
  obtain ⟨h1, h2⟩ := getL_some hx
  rw [dirN_some hx]
  exact ⟨h.ok x h1, h2, h1⟩
theorem setL_len {L : List Node} {n : Node} (h : (getL L n.ino).isSome = true) : setL L n = L.map (fun x => if x.ino = n.ino then n else x) := by
  unfold setL; rw [if_pos h]
theorem map_inos {n : Node} : ∀ (L : List Node), (L.map (fun x => if x.ino = n.ino then n else x)).map (·.ino) = L.map (·.ino) := by
  intro L
  rw [List.map_map]
  apply List.map_congr_left
  intro x _
  simp only [Function.comp]
  split
  · rename_i q; exact q.symm
  · rfl
theorem Good.set {k : Nat} {s : St} (h : Good k s) {n : Node} (hn : NodeOk k n) (hm : (getL s.L n.ino).isSome = true) : Good k ⟨setL s.L n, s.last⟩ := by
  obtain ⟨y, hy⟩ := Option.isSome_iff_exists.1 hm
  obtain ⟨hy1, hy2⟩ := getL_some hy
  refine ⟨?_, fun x hx => ?_, h.l0, h.l1, ?_, fun x hx => ?_⟩
  · show (setL s.L n).Pairwise _
    rw [setL_len hm]
    have := h.srt
    rw [← List.pairwise_map (f := fun x : Node => x.ino) (R := fun a b => a < b), map_inos, List.pairwise_map]
    exact this
  · rcases mem_setL.1 hx with rfl | ⟨q, -⟩
    · have := h.pos y hy1; rw [hy2] at this; exact this
    · exact h.pos x q
  · show (setL s.L n).length ≤ _
    rw [setL_len hm, List.length_map]; exact h.len
  · rcases mem_setL.1 hx with rfl | ⟨q, -⟩
    · exact hn
    · exact h.ok x q
theorem Good.del {k : Nat} {s : St} (h : Good k s) (i : Int) : Good k ⟨delL s.L i, s.last⟩ :=
  ⟨List.Pairwise.filter _ h.srt, fun x hx => h.pos x (mem_delL.1 hx).1, h.l0, h.l1, Nat.le_trans (List.length_filter_le _ _) h.len, fun x hx => h.ok x (mem_delL.1 hx).1⟩
theorem setL_new {L : List Node} {n : Node} (h : getL L n.ino = none) : setL L n = L ++ [n] := by
  unfold setL; rw [h]; simp
theorem Good.add {k : Nat} {s : St} (h : Good k s) {n : Node} (hn : NodeOk (k + 1) n) (hi : n.ino = s.last + 1) : Good (k + 1) ⟨setL s.L n, n.ino⟩ := by
  have hno : getL s.L n.ino = none := getL_no fun x hx q => by have := h.pos x hx; omega
  have l0 := h.l0
  have l1 := h.l1
  refine ⟨?_, fun x hx => ?_, by show 1 ≤ n.ino; omega, by show n.ino ≤ _; omega, ?_, fun x hx => ?_⟩
  · show (setL s.L n).Pairwise _
    rw [setL_new hno, List.pairwise_append]
    exact ⟨h.srt, by simp, fun a ha b hb => by simp at hb; subst hb; have := h.pos a ha; omega⟩
  · rcases mem_setL.1 hx with rfl | ⟨q, -⟩
    · exact ⟨by omega, Int.le_refl _⟩
    · have := h.pos x q; exact ⟨this.1, by show x.ino ≤ n.ino; omega⟩
  · show (setL s.L n).length ≤ _
    rw [setL_new hno, List.length_append]; have := h.len; simp; omega
  · rcases mem_setL.1 hx with rfl | ⟨q, -⟩
    · exact hn
    · exact (h.ok x q).mono (by omega)

theorem mem_insE {l : List Entry} {s : ByteArray} {ino : Int} {x : Entry} : x ∈ insE l s ino ↔ x = ⟨s, ino⟩ ∨ x ∈ l := by
  induction l with
  | nil => simp [insE]
  | cons y r ih =>
    unfold insE
    split
    · simp
    · simp [ih]; constructor
      · rintro (h | h | h)
        · exact .inr (.inl h)
        · exact .inl h
        · exact .inr (.inr h)
      · rintro (h | h | h)
        · exact .inr (.inl h)
        · exact .inl h
        · exact .inr (.inr h)
theorem insE_len (l : List Entry) (s : ByteArray) (ino : Int) : (insE l s ino).length = l.length + 1 := by
  induction l with
  | nil => simp [insE]
  | cons y r ih =>
    unfold insE
    split
    · simp
    · simp [ih]
theorem putE_len (l : List Entry) (s : ByteArray) (ino : Int) : (putE l s ino).1.length ≤ l.length + 1 := by
  unfold putE
  split
  · simp
  · simp [insE_len]
theorem putE_mem {l : List Entry} {s : ByteArray} {ino : Int} {x : Entry} (h : x ∈ (putE l s ino).1) : x = ⟨s, ino⟩ ∨ x ∈ l := by
  unfold putE at h
  split at h
  · exact .inr h
  · exact mem_insE.1 h
theorem nameC_size {s : ByteArray} (h : nameC s = 0) : s.size ≤ 24 := by
  unfold nameC at h
  split at h
  · cases h
  split at h
  · cases h
  split at h
  · cases h
  · omega
theorem placeB_iff {d : Int} {s : ByteArray} : placeB d s = true ↔ 1 ≤ d ∧ d ≤ 1048576 ∧ nameC s = 0 := by
  unfold placeB numB
  simp [and_assoc]
theorem NodeOk.put {k : Nat} {n : Node} (h : NodeOk k n) (hk : n.kind = 2) {s : ByteArray} (hs : nameC s = 0) {ino : Int} (hi : 1 ≤ ino) : NodeOk (k + 1) { n with names := (putE n.names s ino).1 } := by
  have h1 := h.l0
  refine ⟨Nat.le_trans (putE_len _ _ _) (by have := h.len; omega), fun x hx => ?_, by show _ ≤ n.links; omega, h.l1, ?_⟩
  · rcases putE_mem hx with rfl | q
    · exact ⟨nameC_size hs, hi⟩
    · exact h.nm x q
  · rcases h.kd with ⟨q, -⟩ | q
    · omega
    · exact .inr q
theorem NodeOk.drop {k : Nat} {n : Node} (h : NodeOk k n) (s : ByteArray) : NodeOk k { n with names := (dropE n.names s).1 } := by
  refine ⟨Nat.le_trans (List.length_filter_le _ _) h.len, fun x hx => h.nm x (List.mem_filter.1 hx).1, h.l0, h.l1, ?_⟩
  rcases h.kd with ⟨q1, q2, q3, q4, q5⟩ | q
  · exact .inl ⟨q1, q2, q3, q4, by show (dropE n.names s).1 = []; rw [q5]; rfl⟩
  · exact .inr q
theorem NodeOk.links {k k' : Nat} {n : Node} (h : NodeOk k n) (hk : k ≤ k') {j : Int} (h0 : -(k' : Int) ≤ j) (h1 : j ≤ 16) : NodeOk k' { n with links := j } :=
  ⟨Nat.le_trans h.len hk, h.nm, h0, h1, h.kd⟩
theorem isDir_some {s : St} {i : Int} (h : isDir s i = true) : (getL s.L i).isSome = true ∧ (dirN s i).kind = 2 := by
  unfold isDir at h
  simpa using h
theorem isFile_some {s : St} {i : Int} (h : isFile s i = true) : (getL s.L i).isSome = true ∧ (dirN s i).kind = 1 := by
  unfold isFile at h
  simpa using h
theorem good_offL {k : Nat} {s : St} (h : Good k s) {dir : Int} {nm : ByteArray} (hd : isDir s dir = true) : Good k ⟨offL s dir nm, s.last⟩ := by
  obtain ⟨q1, q2, q3⟩ := h.node (isDir_some hd).1
  exact h.set (q1.drop nm) (by show (getL s.L (dirN s dir).ino).isSome = true; rw [q2]; exact (isDir_some hd).1)
theorem good_offS {k : Nat} {s : St} (h : Good k s) {dir : Int} {nm : ByteArray} {ino : Int} (hd : isDir s dir = true) (hi : (getL s.L ino).isSome = true) : Good (k + 1) (offS s dir nm ino) := by
  have h1 := good_offL h (nm := nm) hd
  have hi2 : (getL (offL s dir nm) ino).isSome = true := getL_setL hi
  unfold offS
  split
  · exact (h1.del ino).mono (by omega)
  · obtain ⟨q1, q2, q3⟩ := h1.node hi2
    unfold dirN at q1 q2
    simp only at q1 q2
    refine (h1.mono (Nat.le_add_right k 1)).set (n := { (getL (offL s dir nm) ino).getD node0 with links := ((getL (offL s dir nm) ino).getD node0).links - 1 }) (q1.links (by omega) (by have := q1.l0; omega) (by have := q1.l1; omega)) ?_
    show (getL (offL s dir nm) _).isSome = true
    rw [q2]; exact hi2
theorem isSome_set {L : List Node} {n : Node} {i : Int} (h : (getL L i).isSome = true) : (getL (setL L n) i).isSome = true := getL_setL h
theorem kind_set {k : Nat} {s : St} (h : Good k s) {n : Node} {i : Int} (hi : isDir s i = true) (hn : n.ino = i → n.kind = 2) : isDir ⟨setL s.L n, s.last⟩ i = true := by
  obtain ⟨x, q1, q2⟩ := isDir_iff.1 hi
  rw [isDir_iff]
  show ∃ y, getL (setL s.L n) i = some y ∧ _
  rw [getL_set h.inos]
  split
  · rename_i g; exact ⟨n, rfl, hn g⟩
  · exact ⟨x, q1, q2⟩
theorem good_move {k : Nat} {s : St} (h : Good k s) {e : Effect} {kind : Int} (hd : isDir s e.dir = true) (ht : isDir s e.to = true) (hi : (getL s.L e.ino).isSome = true) (hn : nameC e.other = 0) (he : 1 ≤ e.ino) : Good (k + 1) (moveS s e kind) := by
  obtain ⟨q1, q2, q3⟩ := h.node (isDir_some hd).1
  unfold moveS
  simp only
  have g2 : Good k ⟨setL s.L { dirN s e.dir with names := (dropE (dirN s e.dir).names e.name).1 }, s.last⟩ := h.set (q1.drop e.name) (by show (getL s.L (dirN s e.dir).ino).isSome = true; rw [q2]; exact (isDir_some hd).1)
  have t2 : isDir ⟨setL s.L { dirN s e.dir with names := (dropE (dirN s e.dir).names e.name).1 }, s.last⟩ e.to = true := kind_set h ht (fun _ => (isDir_some hd).2)
  have i2 : (getL (setL s.L { dirN s e.dir with names := (dropE (dirN s e.dir).names e.name).1 }) e.ino).isSome = true := isSome_set hi
  generalize setL s.L { dirN s e.dir with names := (dropE (dirN s e.dir).names e.name).1 } = L2 at g2 t2 i2 ⊢
  obtain ⟨r1, r2, r3⟩ := g2.node (isDir_some t2).1
  have g3 : Good (k + 1) ⟨setL L2 { dirN ⟨L2, s.last⟩ e.to with names := (putE (dirN ⟨L2, s.last⟩ e.to).names e.other e.ino).1 }, s.last⟩ :=
    (g2.mono (Nat.le_add_right k 1)).set (r1.put (isDir_some t2).2 hn he) (by show (getL L2 (dirN ⟨L2, s.last⟩ e.to).ino).isSome = true; rw [r2]; exact (isDir_some t2).1)
  have i3 : (getL (setL L2 { dirN ⟨L2, s.last⟩ e.to with names := (putE (dirN ⟨L2, s.last⟩ e.to).names e.other e.ino).1 }) e.ino).isSome = true := isSome_set i2
  generalize setL L2 { dirN ⟨L2, s.last⟩ e.to with names := (putE (dirN ⟨L2, s.last⟩ e.to).names e.other e.ino).1 } = L3 at g3 i3 ⊢
  split
  · obtain ⟨p1, p2, p3⟩ := g3.node (i := e.ino) i3
    exact g3.set (n := { dirN ⟨L3, s.last⟩ e.ino with up := e.to }) ⟨p1.len, p1.nm, p1.l0, p1.l1, p1.kd⟩ (by show (getL L3 (dirN ⟨L3, s.last⟩ e.ino).ino).isSome = true; rw [p2]; exact i3)
  · exact g3
/-- What a rename that can be comes to. -/
theorem rename_mid {s : St} (hf : Fine s) {e : Effect} {t : St} (h : renameS s e = some t) : ∃ s1, t = moveS s1 e (dirN s e.ino).kind ∧ isDir s e.dir = true ∧ isDir s e.to = true ∧ (getL s.L e.ino).isSome = true ∧
    (findN (dirN s e.dir).names e.name).2 = true ∧ (findN (dirN s e.dir).names e.name).1 = e.ino ∧ ¬ ((dirN s e.ino).kind = 2 ∧ withinS s e.to e.ino = true) ∧
    (((findN (dirN s e.to).names e.other).2 = false ∧ s1 = s) ∨ ∃ og, (findN (dirN s e.to).names e.other).2 = true ∧ og = (findN (dirN s e.to).names e.other).1 ∧ og ≠ e.ino ∧ mayS s e.to e.other og (dirN s e.ino).kind = true ∧ s1 = offS s e.to e.other og) ∧
    isDir s1 e.dir = true ∧ isDir s1 e.to = true ∧ (getL s1.L e.ino).isSome = true := by
  unfold renameS at h
  simp only at h
  split at h
  · rename_i g
    obtain ⟨g1, g2, g3, g4, g5, g6⟩ := g
    have hdn : (dirN s e.dir).names ≠ [] := findN_ne (nm := e.name) g2
    split at h
    · rename_i gt
      split at h
      · cases h
      · rename_i gm
        simp only [not_or, Bool.not_eq_false] at gm
        obtain ⟨go, hmy⟩ := gm
        simp only [Option.some.injEq] at h
        have hog := (mayS_dir hmy).2
        have htn : (dirN s e.to).names ≠ [] := findN_ne (nm := e.other) gt
        have hside : (dirN s (findN (dirN s e.to).names e.other).1).kind ≠ 2 ∨ (dirN s (findN (dirN s e.to).names e.other).1).names = [] := by
          unfold mayS at hmy
          simp only [Bool.and_eq_true, Bool.or_eq_true, decide_eq_true_eq] at hmy
          rcases hmy.2 with q | ⟨q, -⟩
          · left; rw [hmy.1.2, q]; decide
          · right; exact List.length_eq_zero_iff.1 q
        refine ⟨_, h.symm, g1, g4, g5, g2, g3, g6, .inr ⟨_, gt, rfl, go, hmy, rfl⟩, ?_, ?_, ?_⟩
        · refine isDir_off hf g4 g1 hog ?_
          rcases hside with q | q
          · exact .inr q
          · left; intro q'; rw [← q'] at q; exact hdn q
        · refine isDir_off hf g4 g4 hog ?_
          rcases hside with q | q
          · exact .inr q
          · left; intro q'; rw [← q'] at q; exact htn q
        · rw [getL_off hf g4 hog (fun q => go q.symm)]
          split
          · rfl
          · exact g5
    · rename_i gt
      simp only [Option.some.injEq] at h
      exact ⟨s, h.symm, g1, g4, g5, g2, g3, g6, .inl ⟨by simpa using gt, rfl⟩, g1, g4, g5⟩
  · cases h
theorem effB_place {e : Effect} (h : effB e = true) : (e.kind = 1 ∨ e.kind = 2 ∨ e.kind = 3 ∨ e.kind = 4 ∨ e.kind = 5 → nameC e.name = 0 ∧ 1 ≤ e.dir) ∧ (e.kind = 5 → nameC e.other = 0) ∧ (e.kind = 1 → e.page = 1 ∨ e.page = 2) ∧
    (e.kind = 6 → 0 ≤ e.size ∧ e.size ≤ 16384) ∧ (e.kind = 7 → 0 ≤ e.page ∧ e.page < 64 ∧ e.size ≤ 16384 ∧ e.page * 256 < e.size) ∧ 1 ≤ e.kind ∧ e.kind ≤ 8 ∧ 1 ≤ e.ino ∧ e.ino ≤ 1048576 := by
  unfold effB rightS numB at h
  simp only [Bool.and_eq_true, decide_eq_true_eq] at h
  obtain ⟨⟨⟨h1, h2⟩, h3⟩, h4⟩ := h
  by_cases k1 : e.kind = 1
  · rw [if_pos k1] at h1
    simp only [Bool.and_eq_true, Bool.or_eq_true, decide_eq_true_eq, placeB_iff] at h1
    refine ⟨fun _ => ⟨h1.1.2.2, h1.1.1⟩, fun q => by omega, fun _ => h1.2, fun q => by omega, fun q => by omega, by omega, by omega, h2.1, h2.2⟩
  rw [if_neg k1] at h1
  by_cases k2 : e.kind = 2 ∨ e.kind = 3 ∨ e.kind = 4
  · rw [if_pos k2] at h1
    simp only [placeB_iff] at h1
    refine ⟨fun _ => ⟨h1.2.2, h1.1⟩, fun q => by omega, fun q => by omega, fun q => by omega, fun q => by omega, by omega, by omega, h2.1, h2.2⟩
  rw [if_neg k2] at h1
  by_cases k5 : e.kind = 5
  · rw [if_pos k5] at h1
    simp only [Bool.and_eq_true, placeB_iff] at h1
    refine ⟨fun _ => ⟨h1.1.2.2, h1.1.1⟩, fun _ => h1.2.2.2, fun q => by omega, fun q => by omega, fun q => by omega, by omega, by omega, h2.1, h2.2⟩
  rw [if_neg k5] at h1
  by_cases k6 : e.kind = 6
  · rw [if_pos k6] at h1
    simp only [Bool.and_eq_true, decide_eq_true_eq] at h1
    refine ⟨fun q => by omega, fun q => by omega, fun q => by omega, fun _ => h1, fun q => by omega, by omega, by omega, h2.1, h2.2⟩
  rw [if_neg k6] at h1
  by_cases k7 : e.kind = 7
  · rw [if_pos k7] at h1
    simp only [Bool.and_eq_true, decide_eq_true_eq] at h1
    refine ⟨fun q => by omega, fun q => by omega, fun q => by omega, fun q => by omega, fun _ => ⟨h1.1.1.1, h1.1.1.2, h1.1.2, h1.2⟩, by omega, by omega, h2.1, h2.2⟩
  rw [if_neg k7] at h1
  simp only [decide_eq_true_eq] at h1
  refine ⟨fun q => by omega, fun q => by omega, fun q => by omega, fun q => by omega, fun q => by omega, by omega, by omega, h2.1, h2.2⟩
theorem resizeN_node {k : Nat} {n : Node} (h : NodeOk k n) (hk : n.kind = 1) {size : Int} (h0 : 0 ≤ size) (h1 : size ≤ 16384) : NodeOk k (resizeN n size).1 := by
  have hl := resizeN_len (n := n) h0 h1
  have hn := resizeN_names n size
  have hrest : (resizeN n size).1.kind = n.kind ∧ (resizeN n size).1.links = n.links ∧ (resizeN n size).1.size = size := by
    unfold resizeN
    rw [if_neg (by omega)]
    simp only
    split <;> exact ⟨rfl, rfl, rfl⟩
  rcases h.kd with ⟨q1, q2, q3, q4, q5⟩ | q
  · refine ⟨by rw [hn]; exact h.len, by rw [hn]; exact h.nm, by rw [hrest.2.1]; exact h.l0, by rw [hrest.2.1]; exact h.l1, .inl ⟨by rw [hrest.1]; exact q1, by rw [hrest.2.2]; exact h0, by rw [hrest.2.2]; exact h1, by rw [hrest.2.2]; exact hl, by rw [hn]; exact q5⟩⟩
  · omega
theorem good_does {k : Nat} {s : St} (h : Good k s) (hk : k ≤ 2 ^ 19) {e : Effect} (he : effB e = true) {ref : Int} {t : St} {g : List Int} (hd : doesS s e ref = some (t, g)) : Good (k + 2) t := by
  have hf := h.fine hk
  obtain ⟨e1, e2, e3, e4, e5, e6, e7, e8, e9⟩ := effB_place he
  unfold doesS at hd
  split at hd
  · rename_i kd
    obtain ⟨t', ht, q⟩ := Option.map_eq_some_iff.1 hd
    simp only [Prod.mk.injEq] at q
    obtain ⟨rfl, -⟩ := q
    unfold makeS at ht
    simp only at ht
    split at ht
    · rename_i g
      obtain ⟨g1, g2, g3⟩ := g
      simp only [Option.some.injEq] at ht
      subst ht
      obtain ⟨q1, q2, q3⟩ := h.node (isDir_some g1).1
      have hset := (h.mono (Nat.le_add_right k 1)).set (n := { dirN s e.dir with names := (putE (dirN s e.dir).names e.name e.ino).1 }) (q1.put (isDir_some g1).2 (e1 (.inl kd)).1 e8) (by show (getL s.L (dirN s e.dir).ino).isSome = true; rw [q2]; exact (isDir_some g1).1)
      have hmem : ∀ x ∈ setL s.L { dirN s e.dir with names := (putE (dirN s e.dir).names e.name e.ino).1 }, 1 ≤ x.ino ∧ x.ino ≤ s.last := hset.pos
      have hno : getL (setL s.L { dirN s e.dir with names := (putE (dirN s e.dir).names e.name e.ino).1 }) (newN e.ino e.page e.dir).ino = none := getL_no fun x hx q => by
        have := hmem x hx; have q' : x.ino = e.ino := q; omega
      have l0 := h.l0
      have l1 := h.l1
      have hN : NodeOk (k + 1) (newN e.ino e.page e.dir) := by
        refine ⟨Nat.zero_le _, fun x hx => (by cases hx), by show _ ≤ (1 : Int); omega, by show (1 : Int) ≤ 16; omega, ?_⟩
        rcases e3 kd with q | q
        · exact .inl ⟨q, by show (0 : Int) ≤ 0; omega, by show (0 : Int) ≤ 16384; omega, by show 0 = (needI 0).toNat; rfl, rfl⟩
        · exact .inr ⟨q, rfl⟩
      refine Good.mono (k := k + 1) ?_ (by omega)
      refine ⟨?_, fun x hx => ?_, by show 1 ≤ e.ino; omega, by show e.ino ≤ _; omega, ?_, fun x hx => ?_⟩
      · show (setL (setL s.L _) _).Pairwise _
        rw [setL_new hno, List.pairwise_append]
        exact ⟨hset.srt, by simp, fun a ha b hb => by simp at hb; subst hb; have := hmem a ha; show a.ino < e.ino; omega⟩
      · rcases mem_setL.1 hx with rfl | ⟨q, -⟩
        · exact ⟨by show 1 ≤ e.ino; omega, Int.le_refl _⟩
        · have := hmem x q; exact ⟨this.1, by show x.ino ≤ e.ino; omega⟩
      · show (setL (setL s.L _) _).length ≤ _
        rw [setL_new hno, List.length_append, setL_len (by show (getL s.L (dirN s e.dir).ino).isSome = true; rw [q2]; exact (isDir_some g1).1), List.length_map]
        have := h.len; simp; omega
      · rcases mem_setL.1 hx with rfl | ⟨q, -⟩
        · exact hN
        · exact hset.ok x q
    · cases ht
  rename_i k1
  split at hd
  · rename_i kd
    obtain ⟨t', ht, q⟩ := Option.map_eq_some_iff.1 hd
    simp only [Prod.mk.injEq] at q
    obtain ⟨rfl, -⟩ := q
    unfold linkS at ht
    simp only at ht
    split at ht
    · rename_i g
      obtain ⟨g1, g2, g3, g4, g5⟩ := g
      simp only [Option.some.injEq] at ht
      subst ht
      obtain ⟨q1, q2, q3⟩ := h.node (isDir_some g1).1
      obtain ⟨r1, r2, r3⟩ := h.node (isFile_some g2).1
      have hset := (h.mono (Nat.le_add_right k 1)).set (n := { dirN s e.dir with names := (putE (dirN s e.dir).names e.name e.ino).1 }) (q1.put (isDir_some g1).2 (e1 (.inr (.inl kd))).1 e8) (by show (getL s.L (dirN s e.dir).ino).isSome = true; rw [q2]; exact (isDir_some g1).1)
      refine Good.mono (k := k + 1) ?_ (by omega)
      exact hset.set (n := { dirN s e.ino with links := (dirN s e.ino).links + 1 }) (r1.links (by omega) (by omega) (by omega)) (by show (getL (setL s.L _) (dirN s e.ino).ino).isSome = true; rw [r2]; exact isSome_set (isFile_some g2).1)
    · cases ht
  rename_i k2
  split at hd
  · rename_i kd
    obtain ⟨t', ht, q⟩ := Option.map_eq_some_iff.1 hd
    simp only [Prod.mk.injEq] at q
    obtain ⟨rfl, -⟩ := q
    unfold removeS at ht
    by_cases g : mayS s e.dir e.name e.ino (if e.kind = 4 then 2 else 1) = true
    · rw [if_pos g] at ht
      simp only [Option.some.injEq] at ht
      subst ht
      obtain ⟨d1, d2⟩ := mayS_dir g
      exact (good_offS h d1 d2).mono (by omega)
    · rw [if_neg g] at ht; cases ht
  rename_i k3
  split at hd
  · rename_i kd
    obtain ⟨t', ht, q⟩ := Option.map_eq_some_iff.1 hd
    simp only [Prod.mk.injEq] at q
    obtain ⟨rfl, -⟩ := q
    obtain ⟨s1, rfl, h1, h2, h3, h4, h5, h6, h7, h8, h9, h10⟩ := rename_mid hf ht
    rcases h7 with ⟨-, rfl⟩ | ⟨og, p1, p2, p3, p4, rfl⟩
    · exact (good_move h h8 h9 h10 (e2 kd) e8).mono (by omega)
    · exact good_move (good_offS h h2 (mayS_dir p4).2) h8 h9 h10 (e2 kd) e8
  rename_i k5
  split at hd
  · rename_i kd
    unfold truncS at hd
    split at hd
    · rename_i g
      simp only [Option.some.injEq, Prod.mk.injEq] at hd
      obtain ⟨rfl, -⟩ := hd
      obtain ⟨r1, r2, r3⟩ := h.node (isFile_some g).1
      exact (h.set (resizeN_node r1 (isFile_some g).2 (e4 kd).1 (e4 kd).2) (by rw [resizeN_ino, r2]; exact (isFile_some g).1)).mono (by omega)
    · cases hd
  rename_i k6
  split at hd
  · rename_i kd
    unfold writeS at hd
    split at hd
    · rename_i g
      simp only [Option.some.injEq, Prod.mk.injEq] at hd
      obtain ⟨rfl, -⟩ := hd
      obtain ⟨r1, r2, r3⟩ := h.node (isFile_some g.1).1
      obtain ⟨p1, p2, p3, p4⟩ := e5 kd
      have hr := resizeN_node r1 (isFile_some g.1).2 (size := e.size) (by omega) p3
      have hp : NodeOk k (putN (dirN s e.ino) e.page.toNat ref e.size).1 := by
        unfold putN
        refine ⟨hr.len, hr.nm, hr.l0, hr.l1, ?_⟩
        rcases hr.kd with ⟨a1, a2, a3, a4, a5⟩ | ⟨a1, a2⟩
        · exact .inl ⟨a1, a2, a3, by show (List.set _ _ _).length = _; rw [List.length_set]; exact a4, a5⟩
        · exact .inr ⟨a1, by show List.set _ _ _ = []; rw [a2]; rfl⟩
      have hpi : (putN (dirN s e.ino) e.page.toNat ref e.size).1.ino = e.ino := (resizeN_ino _ _).trans r2
      exact (h.set hp (by rw [hpi]; exact (isFile_some g.1).1)).mono (by omega)
    · cases hd
  · unfold dropS at hd
    split at hd
    · simp only [Option.some.injEq, Prod.mk.injEq] at hd
      obtain ⟨rfl, -⟩ := hd
      exact (h.del e.ino).mono (by omega)
    · cases hd
end Go.Proofs.YtdfjfagljngciaaGreat

set_option linter.all false
set_option maxRecDepth 100000
set_option maxHeartbeats 4000000
namespace Go.Proofs.YtdfjfagljngciaaGreat
open Go.RowKit Rx Go.MapKept

def sumF (f : Node → Int) (L : List Node) : Int := (L.map f).sum
theorem sumF_nil (f : Node → Int) : sumF f [] = 0 := rfl
theorem sumF_cons (f : Node → Int) (x : Node) (L : List Node) : sumF f (x :: L) = f x + sumF f L := by simp [sumF]
theorem sumF_app (f : Node → Int) (L L' : List Node) : sumF f (L ++ L') = sumF f L + sumF f L' := by simp [sumF]
theorem getL_cons (x : Node) (L : List Node) (k : Int) : getL (x :: L) k = if x.ino = k then some x else getL L k := by
  unfold getL
  rw [List.find?_cons]
  split
  · rename_i h; simp at h; rw [if_pos h]
  · rename_i h; simp at h; rw [if_neg h]
theorem inos_cons {x : Node} {L : List Node} : Inos (x :: L) ↔ (∀ y ∈ L, y.ino ≠ x.ino) ∧ Inos L := by
  unfold Inos
  rw [List.map_cons, List.nodup_cons]
  simp
theorem sum_map {f : Node → Int} {n : Node} : ∀ {L : List Node} {x : Node}, Inos L → getL L n.ino = some x → sumF f (L.map (fun x => if x.ino = n.ino then n else x)) = sumF f L - f x + f n
  | [], x, _, h => by simp [getL] at h
  | y :: L, x, hd, h => by
    obtain ⟨h1, h2⟩ := inos_cons.1 hd
    rw [getL_cons] at h
    rw [List.map_cons, sumF_cons, sumF_cons]
    split at h
    · rename_i q
      simp only [Option.some.injEq] at h
      subst h
      rw [if_pos q]
      have : L.map (fun x => if x.ino = n.ino then n else x) = L := by
        conv => rhs; rw [← List.map_id L]
        apply List.map_congr_left
        intro z hz
        rw [if_neg (fun e => h1 z hz (e.trans q.symm))]; rfl
      rw [this]; omega
    · rename_i q
      rw [if_neg q, sum_map h2 h]; omega
theorem sum_set {f : Node → Int} {L : List Node} {n x : Node} (hd : Inos L) (h : getL L n.ino = some x) : sumF f (setL L n) = sumF f L - f x + f n := by
  rw [setL_len (by rw [h]; rfl), sum_map hd h]
theorem sum_del {f : Node → Int} {k : Int} : ∀ {L : List Node} {x : Node}, Inos L → getL L k = some x → sumF f (delL L k) = sumF f L - f x
  | [], x, _, h => by simp [getL] at h
  | y :: L, x, hd, h => by
    obtain ⟨h1, h2⟩ := inos_cons.1 hd
    rw [getL_cons] at h
    split at h
    · rename_i q
      simp only [Option.some.injEq] at h
      subst h
      have e : delL (y :: L) k = L := by
        unfold delL
        rw [List.filter_cons, if_neg (by simp [q])]
        rw [List.filter_eq_self]
        intro z hz
        have := h1 z hz
        simp; rw [← q]; exact this
      rw [e, sumF_cons]; omega
    · rename_i q
      have e : delL (y :: L) k = y :: delL L k := by
        unfold delL
        rw [List.filter_cons, if_pos (by simp [q])]
      rw [e, sumF_cons, sumF_cons, sum_del h2 h]; omega
def refsN (n : Node) : List Int := n.pages.filter (fun x => !decide (x = 0))
def refsS (s : St) : List Int := s.L.flatMap refsN
def wordsS (s : St) : Int := 2 + sumF wordsN s.L
def cntN (n : Node) : Int := (refsN n).length
theorem refs_sum : ∀ (L : List Node), ((L.flatMap refsN).length : Int) = sumF cntN L
  | [] => rfl
  | x :: L => by rw [List.flatMap_cons, List.length_append, sumF_cons, ← refs_sum L]; unfold cntN; omega
theorem sumW_filter (p : Entry → Bool) : ∀ (l : List Entry), sumW (l.filter p) ≤ sumW l
  | [] => by simp [sumW]
  | x :: l => by
    have ih := sumW_filter p l
    have := needW_le x.name.size
    rw [List.filter_cons]
    split
    · simp only [sumW]; omega
    · simp only [sumW]; omega
theorem sumW_nn : ∀ (l : List Entry), 0 ≤ sumW l
  | [] => by simp [sumW]
  | x :: l => by
    have ih := sumW_nn l
    have := needW_le x.name.size
    simp only [sumW]; omega
theorem wordsN_nn (n : Node) : 7 ≤ wordsN n := by
  unfold wordsN
  have := sumW_nn n.names
  omega
theorem cntN_nn (n : Node) : 0 ≤ cntN n := by unfold cntN; omega
/-- A measure that a name, or a link, less makes no greater. -/
structure Meas (f : Node → Int) : Prop where
  nn : ∀ n, 0 ≤ f n
  dr : ∀ n nm, f { n with names := (dropE n.names nm).1 } ≤ f n
  lk : ∀ n j, f { n with links := j } = f n
theorem meas_words : Meas wordsN := by
  refine ⟨fun n => by have := wordsN_nn n; omega, fun n nm => ?_, fun n j => rfl⟩
  unfold wordsN
  have := sumW_filter (fun x => !decide (x.name = nm)) n.names
  simp only [dropE]
  omega
theorem meas_cnt : Meas cntN := ⟨cntN_nn, fun n nm => Int.le_refl _, fun n j => rfl⟩
theorem int_less {S a b : Int} (h : b ≤ a) : S - a + b ≤ S := by omega
theorem int_less' {S a : Int} (h : 0 ≤ a) : S - a ≤ S := by omega
theorem off_less {f : Node → Int} (hm : Meas f) {k : Nat} {s : St} (h : Good k s) {dir : Int} {nm : ByteArray} {ino : Int} (hd : isDir s dir = true) (hi : (getL s.L ino).isSome = true) : sumF f (offS s dir nm ino).L ≤ sumF f s.L := by
  have h1 := good_offL h (nm := nm) hd
  obtain ⟨q1, q2, q3⟩ := h.node (isDir_some hd).1
  have hg : getL s.L ({ dirN s dir with names := (dropE (dirN s dir).names nm).1 } : Node).ino = some (dirN s dir) := by
    show getL s.L (dirN s dir).ino = _
    exact getL_eq h.inos q3 rfl
  have e1 : sumF f (offL s dir nm) ≤ sumF f s.L := by
    unfold offL
    rw [sum_set h.inos hg]
    exact int_less (hm.dr (dirN s dir) nm)
  have hi2 : (getL (offL s dir nm) ino).isSome = true := getL_setL hi
  obtain ⟨x, hx⟩ := Option.isSome_iff_exists.1 hi2
  have hxi := (getL_some hx).2
  unfold offS
  split
  · show sumF f (delL _ _) ≤ _
    rw [sum_del h1.inos hx]
    exact Int.le_trans (int_less' (hm.nn x)) e1
  · show sumF f (setL _ _) ≤ _
    rw [hx]
    rw [sum_set (n := { ((some x).getD node0) with links := ((some x).getD node0).links - 1 }) (x := x) h1.inos (by show getL _ x.ino = _; rw [hxi]; exact hx)]
    exact Int.le_trans (int_less (Int.le_of_eq (hm.lk x (x.links - 1)))) e1
/-- What goes, or is made smaller, makes a state no greater. -/
theorem goes_less {k : Nat} {s : St} (h : Good k s) {e : Effect} (he : effB e = true) {ref : Int} {t : St} {g : List Int} (hd : doesS s e ref = some (t, g))
    (hk : e.kind = 3 ∨ e.kind = 4 ∨ e.kind = 8 ∨ (e.kind = 6 ∧ e.size ≤ (dirN s e.ino).size)) : sumF wordsN t.L ≤ sumF wordsN s.L ∧ sumF cntN t.L ≤ sumF cntN s.L := by
  unfold doesS at hd
  rw [if_neg (by omega), if_neg (by omega)] at hd
  split at hd
  · obtain ⟨t', ht, q⟩ := Option.map_eq_some_iff.1 hd
    simp only [Prod.mk.injEq] at q
    obtain ⟨rfl, -⟩ := q
    unfold removeS at ht
    by_cases g : mayS s e.dir e.name e.ino (if e.kind = 4 then 2 else 1) = true
    · rw [if_pos g] at ht
      simp only [Option.some.injEq] at ht
      subst ht
      obtain ⟨d1, d2⟩ := mayS_dir g
      exact ⟨off_less meas_words h d1 d2, off_less meas_cnt h d1 d2⟩
    · rw [if_neg g] at ht; cases ht
  rename_i k3
  rw [if_neg (by omega)] at hd
  split at hd
  · rename_i k6
    have hsz : e.size ≤ (dirN s e.ino).size := by omega
    obtain ⟨-, -, -, e6, -⟩ := effB_place he
    obtain ⟨p1, p2⟩ := e6 k6
    unfold truncS at hd
    split at hd
    · rename_i g
      simp only [Option.some.injEq, Prod.mk.injEq] at hd
      obtain ⟨rfl, -⟩ := hd
      obtain ⟨r1, r2, r3⟩ := h.node (isFile_some g).1
      have hg : getL s.L (resizeN (dirN s e.ino) e.size).1.ino = some (dirN s e.ino) := by rw [resizeN_ino]; exact getL_eq h.inos r3 rfl
      have hpl : (dirN s e.ino).pages.length = (needI (dirN s e.ino).size).toNat := by
        rcases r1.kd with q | q
        · exact q.2.2.2.1
        · have := (isFile_some g).2; omega
      have hle : (needI e.size).toNat ≤ (dirN s e.ino).pages.length := by
        rw [hpl]; unfold needI; split <;> split <;> omega
      have hpg : (resizeN (dirN s e.ino) e.size).1.pages = (dirN s e.ino).pages.take (needI e.size).toNat ∧ (resizeN (dirN s e.ino) e.size).1.names = (dirN s e.ino).names := by
        refine ⟨?_, resizeN_names _ _⟩
        unfold resizeN
        rw [if_neg (by omega)]
        simp only
        split
        · rfl
        · rename_i q
          have : (needI e.size).toNat - (dirN s e.ino).pages.length = 0 := by omega
          show _ ++ _ = _
          rw [this, List.take_of_length_le (by omega)]; simp
      constructor
      · show sumF wordsN (setL _ _) ≤ _
        rw [sum_set h.inos hg]
        have : wordsN (resizeN (dirN s e.ino) e.size).1 ≤ wordsN (dirN s e.ino) := by
          unfold wordsN
          rw [hpg.1, hpg.2, List.length_take]; omega
        omega
      · show sumF cntN (setL _ _) ≤ _
        rw [sum_set h.inos hg]
        have : cntN (resizeN (dirN s e.ino) e.size).1 ≤ cntN (dirN s e.ino) := by
          unfold cntN refsN
          rw [hpg.1]
          have := ((List.take_sublist (needI e.size).toNat (dirN s e.ino).pages).filter (fun x => !decide (x = 0))).length_le
          omega
        omega
    · cases hd
  rename_i k6
  rw [if_neg (by omega)] at hd
  unfold dropS at hd
  split at hd
  · rename_i g
    simp only [Option.some.injEq, Prod.mk.injEq] at hd
    obtain ⟨rfl, -⟩ := hd
    obtain ⟨x, hx⟩ := Option.isSome_iff_exists.1 (isFile_some g.1).1
    constructor
    · show sumF wordsN (delL _ _) ≤ _
      rw [sum_del h.inos hx]
      have := wordsN_nn x; omega
    · show sumF cntN (delL _ _) ≤ _
      rw [sum_del h.inos hx]
      have := cntN_nn x; omega
  · cases hd
end Go.Proofs.YtdfjfagljngciaaGreat

set_option linter.all false
set_option maxRecDepth 100000
set_option maxHeartbeats 4000000
namespace Go.Proofs.YtdfjfagljngciaaGreat
open Go.RowKit Rx Go.MapKept

theorem did_of {w w' : World} {X : Nat → Prop} {b m : Nat} {s : St} {o : Option St} (h1 : StAt w' X b m (o.getD s)) (h2 : Step (fun k => k = b ∨ k = m) w w') : Did w X b m s (o.map (fun t => (t, []))) (.returned (.tuple #[.slice none 0 0, .bool o.isSome])) w' := by
  refine ⟨.slice none 0 0, by simp, ?_, ?_, h2, by simp [ownB]⟩
  · cases o <;> exact Ow.nil _ _ _ _
  · cases o <;> exact h1
theorem Did.of_alloc {w W w' : World} {X : Nat → Prop} {b m : Nat} {s : St} {R : Option (St × List Int)} {r : Ending} (h : Did W X b m s R r w') (k : Keep w W) : Did w X b m s R r w' := by
  obtain ⟨g, h1, h2, h3, h4, h5⟩ := h
  exact ⟨g, h1, h2, h3, Step.trans (O := fun k => k = b ∨ k = m) (Keep.any k) h4 (fun i _ q => q), fun c hc => Nat.le_trans k.size (h5 c hc)⟩
theorem Did.back {w W w' : World} {X : Nat → Prop} {b m : Nat} {s : St} {R : Option (St × List Int)} {r : Ending} (h : Did W X b m s R r w') (k : Keep w W) :
    ∃ g, r = .returned (.tuple #[g, .bool R.isSome]) ∧ Did w X b m s R (.returned (.tuple #[g, .bool R.isSome])) w' := by
  obtain ⟨g, h1, h2⟩ := h.of_alloc k
  exact ⟨g, h1, g, rfl, h2⟩
theorem state_does (X : Nat → Prop) (b m : Nat) (s : St) (hf : Fine s) (hn : ∀ n ∈ s.L, n.names.length < 2 ^ 20) (e : Effect) (he : effB e = true) (hok : e.ok) (ref : Int) (hr : I64 ref) (a : Option Addr) (c : Nat) (w : World) (h : StAt w X b m s) :
    Calls Tryz.prog 40 #[.pointer (some ⟨b, 0, none⟩), .agg (e.enc (.slice a e.data.length c)).toArray, .int .i64 ref] w (Did w X b m s (doesS s e ref)) := by
  obtain ⟨-, -, -, -, e7, k1, k8, -, -⟩ := effB_place he
  refine calls_rx h40 Tryz.func40 rfl Tryz.mixed (by kernel_rfl) Tryz.results40 ?_
  unfold Effect.enc
  simp -dsimp [go_sem]
  generalize hW : w.alloc _ = W
  obtain ⟨E0, k0, z0⟩ := alloc1 hW
  clear hW
  have h0 := h.keep k0
  have kk : ∀ w', Step (fun k => k = b ∨ k = m) W w' → Step (fun k => k = b ∨ k = m) w w' := fun w' hs => Step.trans (O := fun k => k = b ∨ k = m) (Keep.any k0) hs (fun i _ q => q)
  have E0c := blk_cell E0; have E0f := blk_free E0; have E0l := blk_lt E0
  unfold doesS
  by_cases q1 : e.kind = 1
  · have d1 : decide (e.kind = 1) = true := decide_eq_true q1
    rw [if_pos q1]
    simp -dsimp [go_sem, E0c, E0f, E0l, d1]
    refine (state_make X b m s hf e hok a c W h0).mono ?_; rintro _ w1 ⟨rfl, h1, s1⟩; refine ret_intro ?_
    simp -dsimp [go_sem]
    exact did_of h1 (kk _ s1)
  rw [if_neg q1]
  by_cases q2 : e.kind = 2
  · have d2 : decide (e.kind = 2) = true := decide_eq_true q2
    rw [if_pos q2]
    simp -dsimp [go_sem, E0c, E0f, E0l, q1, d2]
    refine (state_link X b m s hf e hok a c W h0).mono ?_; rintro _ w1 ⟨rfl, h1, s1⟩; refine ret_intro ?_
    simp -dsimp [go_sem]
    exact did_of h1 (kk _ s1)
  rw [if_neg q2]
  by_cases q3 : e.kind = 3
  · have d3 : decide (e.kind = 3) = true := decide_eq_true q3
    rw [if_pos (.inl q3)]
    simp -dsimp [go_sem, E0c, E0f, E0l, q1, q2, d3]
    refine (state_remove X b m s hf e hok a c W h0).mono ?_; rintro _ w1 ⟨rfl, h1, s1⟩; refine ret_intro ?_
    simp -dsimp [go_sem]
    exact did_of h1 (kk _ s1)
  by_cases q4 : e.kind = 4
  · have d4 : decide (e.kind = 4) = true := decide_eq_true q4
    rw [if_pos (.inr q4)]
    simp -dsimp [go_sem, E0c, E0f, E0l, q1, q2, q3, d4]
    refine (state_remove X b m s hf e hok a c W h0).mono ?_; rintro _ w1 ⟨rfl, h1, s1⟩; refine ret_intro ?_
    simp -dsimp [go_sem]
    exact did_of h1 (kk _ s1)
  rw [if_neg (not_or.2 ⟨q3, q4⟩)]
  by_cases q5 : e.kind = 5
  · have d5 : decide (e.kind = 5) = true := decide_eq_true q5
    rw [if_pos q5]
    simp -dsimp [go_sem, E0c, E0f, E0l, q1, q2, q3, q4, d5]
    refine (state_rename X b m s hf e hn hok a c W h0).mono ?_; rintro _ w1 ⟨rfl, h1, s1⟩; refine ret_intro ?_
    simp -dsimp [go_sem]
    exact did_of h1 (kk _ s1)
  rw [if_neg q5]
  by_cases q6 : e.kind = 6
  · have d6 : decide (e.kind = 6) = true := decide_eq_true q6
    rw [if_pos q6]
    simp -dsimp [go_sem, E0c, E0f, E0l, q1, q2, q3, q4, q5, d6]
    refine (state_trunc X b m s hf e hok a c W h0).mono ?_
    rintro r w1 hd
    obtain ⟨g, rfl, hd'⟩ := hd.back k0
    refine ret_intro ?_
    simp -dsimp [go_sem]
    exact hd'
  rw [if_neg q6]
  by_cases q7 : e.kind = 7
  · have d7 : decide (e.kind = 7) = true := decide_eq_true q7
    rw [if_pos q7]
    simp -dsimp [go_sem, E0c, E0f, E0l, q1, q2, q3, q4, q5, q6, d7]
    obtain ⟨p1, p2, p3, p4⟩ := e7 q7
    refine (state_write X b m s hf e hok ref hr p1 p4 p3 a c W h0).mono ?_
    rintro r w1 hd
    obtain ⟨g, rfl, hd'⟩ := hd.back k0
    refine ret_intro ?_
    simp -dsimp [go_sem]
    exact hd'
  rw [if_neg q7]
  simp -dsimp [go_sem, E0c, E0f, E0l, q1, q2, q3, q4, q5, q6, q7]
  refine (state_drop X b m s hf e hok a c W h0).mono ?_
  rintro r w1 hd
  obtain ⟨g, rfl, hd'⟩ := hd.back k0
  refine ret_intro ?_
  simp -dsimp [go_sem]
  exact hd'
theorem state_Apply (X : Nat → Prop) (b m : Nat) (s : St) (hf : Fine s) (hn : ∀ n ∈ s.L, n.names.length < 2 ^ 20) (e : Effect) (hok : e.ok) (ref : Int) (hr : I64 ref) (a : Option Addr) (c : Nat) (w : World) (h : StAt w X b m s) :
    Calls Tryz.prog 15 #[.pointer (some ⟨b, 0, none⟩), .agg (e.enc (.slice a e.data.length c)).toArray, .int .i64 ref] w fun r w' =>
      ∃ g, r = .returned (.tuple #[g, .int .i64 (applyS s e ref).2.2]) ∧ Ow rInt 3 (fun _ => True) w' g (applyS s e ref).2.1 ∧ StAt w' X b m (applyS s e ref).1 ∧ Step (fun k => k = b ∨ k = m) w w' ∧ ∀ c, ownB g = some c → w.heap.size ≤ c := by
  refine calls_rx h15 Tryz.func15 rfl Tryz.mixed (by kernel_rfl) Tryz.results15 ?_
  unfold Effect.enc
  simp -dsimp [go_sem]
  generalize hW : w.alloc _ = W
  obtain ⟨E0, k0, z0⟩ := alloc1 hW
  clear hW
  have h0 := h.keep k0
  refine (state_ok X b m s W h0).mono ?_; rintro _ w1 ⟨rfl, rfl⟩; refine ret_intro ?_
  have E0c := blk_cell E0; have E0f := blk_free E0; have E0l := blk_lt E0
  simp -dsimp [go_sem, E0c, E0f, E0l]
  refine (effect_Check e hok a c W).mono ?_; rintro _ w1 ⟨rfl, k1⟩; refine ret_intro ?_
  have h1 := h0.keep k1
  replace E0 := Step.blk k1 E0 (fun q => q)
  clear E0c E0f E0l
  have E0c := blk_cell E0; have E0f := blk_free E0; have E0l := blk_lt E0
  have k01 := Keep.trans k0 k1
  unfold applyS effC
  cases hb : effB e
  · rw [if_neg (by simp), if_neg (by simp)]
    simp -dsimp [go_sem, E0c, E0f, E0l]
    exact ⟨Ow.nil _ _ _ _, h1, k01.any, by simp [ownB]⟩
  · rw [if_pos rfl, if_pos rfl]
    simp -dsimp [go_sem, E0c, E0f, E0l]
    refine (state_does X b m s hf hn e hb hok ref hr a c w1 h1).mono ?_
    rintro r w2 hd
    have hd' := hd.of_alloc k01
    obtain ⟨g, rfl, hd2⟩ := hd
    obtain ⟨g', hg', o2, h2, s2, b2⟩ := hd'
    obtain rfl : g = g' := by simpa using hg'
    refine ret_intro ?_
    cases hR : doesS s e ref with
    | none =>
      rw [hR] at o2 h2
      simp -dsimp [go_sem]
      exact ⟨Ow.nil _ _ _ _, h2, s2, by simp [ownB]⟩
    | some R =>
      rw [hR] at o2 h2
      simp -dsimp [go_sem]
      exact ⟨o2, h2, s2, b2⟩
end Go.Proofs.YtdfjfagljngciaaGreat
