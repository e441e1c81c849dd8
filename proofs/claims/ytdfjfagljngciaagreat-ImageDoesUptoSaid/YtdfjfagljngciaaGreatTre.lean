/- Plain laws of states: names tell links, each directory is named once, in the one that it says; all come to the root. Plain laws of states: behind any effect names tell links still. Plain laws of states: what is done and undone leaves all as it was. Plain laws of states: references of their own stay apart. -/
import Derived.Test.YtdfjfagljngciaaGreatWin
set_option linter.all false
set_option maxRecDepth 100000
set_option maxHeartbeats 4000000
namespace Go.Proofs.YtdfjfagljngciaaGreat
open Go.RowKit Rx Go.MapKept

theorem bl_trans : ∀ {a b c : List UInt8}, Op.bytesLess a b = true → Op.bytesLess b c = true → Op.bytesLess a c = true
  | [], [], _, h, _ => by simp [Op.bytesLess] at h
  | [], _ :: _, [], _, h => by simp [Op.bytesLess] at h
  | [], _ :: _, _ :: _, _, _ => by simp [Op.bytesLess]
  | _ :: _, [], _, h, _ => by simp [Op.bytesLess] at h
  | _ :: _, _ :: _, [], _, h => by simp [Op.bytesLess] at h
  | x :: a, y :: b, z :: c, h1, h2 => by
    simp only [Op.bytesLess] at h1 h2 ⊢
    by_cases e1 : x = y
    · subst e1
      by_cases e2 : x = z
      · subst e2
        simp at h1 h2 ⊢
        exact bl_trans h1 h2
      · simp [e2] at h1 h2 ⊢
        exact h2
    · by_cases e2 : y = z
      · subst e2
        simp [e1] at h1 h2 ⊢
        exact h1
      · simp [e1, e2] at h1 h2
        have h3 := UInt8.lt_iff_toNat_lt.1 h1
        have h4 := UInt8.lt_iff_toNat_lt.1 h2
        have h5 : x < z := UInt8.lt_iff_toNat_lt.2 (by omega)
        have h6 : ¬ x = z := fun e => by rw [e] at h5; exact absurd h5 (UInt8.lt_irrefl z)
        simp [h5, h6]
def bl (a b : ByteArray) : Bool := Op.bytesLess a.toList b.toList
theorem bl_ne {a b : ByteArray} (h : bl a b = true) : a ≠ b := fun e => by rw [e] at h; unfold bl at h; rw [bl_irrefl] at h; cases h
theorem bl_tot {a b : ByteArray} (h : bl a b = false) (hn : a ≠ b) : bl b a = true := by
  unfold bl at h ⊢
  rw [bl_flip] at h
  simp only [Bool.not_eq_false', Bool.or_eq_true] at h
  rcases h with h | h
  · exact h
  · rw [str_eq] at h; exact absurd (of_decide_eq_true h) hn
def Srt (l : List Entry) : Prop := l.Pairwise (fun a b => bl a.name b.name = true)
def cntE (l : List Entry) (i : Int) : Int := ((l.countP (fun x => decide (x.ino = i)) : Nat) : Int)
theorem cntE_nn (l : List Entry) (i : Int) : 0 ≤ cntE l i := by unfold cntE; omega
theorem cntE_cons (x : Entry) (l : List Entry) (i : Int) : cntE (x :: l) i = (if x.ino = i then 1 else 0) + cntE l i := by
  unfold cntE
  rw [List.countP_cons]
  by_cases h : x.ino = i <;> simp [h] <;> omega
theorem cntE_pos {l : List Entry} {i : Int} {x : Entry} (hx : x ∈ l) (hi : x.ino = i) : 1 ≤ cntE l i := by
  unfold cntE
  have : 0 < l.countP (fun x => decide (x.ino = i)) := List.countP_pos_iff.2 ⟨x, hx, by simpa using hi⟩
  omega
theorem cntE_ex {l : List Entry} {i : Int} (h : 1 ≤ cntE l i) : ∃ x ∈ l, x.ino = i := by
  unfold cntE at h
  have : 0 < l.countP (fun x => decide (x.ino = i)) := by omega
  obtain ⟨x, hx, hi⟩ := List.countP_pos_iff.1 this
  exact ⟨x, hx, by simpa using hi⟩
theorem cnt_ins (nm : ByteArray) (ino i : Int) : ∀ (l : List Entry), cntE (insE l nm ino) i = cntE l i + if ino = i then 1 else 0
  | [] => by rw [insE, cntE_cons]; unfold cntE; simp
  | x :: l => by
    rw [insE]
    split
    · rw [cntE_cons ⟨nm, ino⟩]; simp only; omega
    · rw [cntE_cons, cntE_cons, cnt_ins nm ino i l]; omega
theorem srt_ins {nm : ByteArray} {ino : Int} : ∀ {l : List Entry}, Srt l → (∀ x ∈ l, x.name ≠ nm) → Srt (insE l nm ino)
  | [], _, _ => by simp [insE, Srt]
  | x :: l, h, hn => by
    unfold Srt at h
    rw [List.pairwise_cons] at h
    rw [insE]
    split
    · rename_i g
      refine List.pairwise_cons.2 ⟨fun y hy => ?_, List.pairwise_cons.2 h⟩
      rcases List.mem_cons.1 hy with rfl | hy
      · exact g
      · exact bl_trans g (h.1 y hy)
    · rename_i g
      have hx := hn x (List.mem_cons_self ..)
      refine List.pairwise_cons.2 ⟨fun y hy => ?_, srt_ins h.2 (fun z hz => hn z (List.mem_cons_of_mem _ hz))⟩
      rcases mem_insE.1 hy with rfl | hy
      · exact bl_tot (by simpa [bl] using g) (fun e => hx e.symm)
      · exact h.1 y hy
theorem srt_drop {l : List Entry} (h : Srt l) (nm : ByteArray) : Srt (dropE l nm).1 := List.Pairwise.filter _ h
theorem srt_apart {l : List Entry} (h : Srt l) {x y : Entry} (hx : x ∈ l) (hy : y ∈ l) (e : x.name = y.name) : x = y := by
  induction l with
  | nil => cases hx
  | cons z l ih =>
    unfold Srt at h
    rw [List.pairwise_cons] at h
    rcases List.mem_cons.1 hx with rfl | hx'
    · rcases List.mem_cons.1 hy with rfl | hy'
      · rfl
      · exact absurd e (bl_ne (h.1 y hy'))
    · rcases List.mem_cons.1 hy with rfl | hy'
      · exact absurd e.symm (bl_ne (h.1 x hx'))
      · exact ih h.2 hx' hy'
theorem drop_none {l : List Entry} {nm : ByteArray} (h : ∀ x ∈ l, x.name ≠ nm) : (dropE l nm).1 = l := by
  unfold dropE
  rw [List.filter_eq_self]
  intro x hx
  simpa using h x hx
theorem drop_cons (x : Entry) (l : List Entry) (nm : ByteArray) : (dropE (x :: l) nm).1 = if x.name = nm then (dropE l nm).1 else x :: (dropE l nm).1 := by
  unfold dropE
  simp only [List.filter_cons]
  by_cases h : x.name = nm <;> simp [h]
theorem cnt_drop {nm : ByteArray} {i : Int} : ∀ {l : List Entry} {x : Entry}, Srt l → x ∈ l → x.name = nm → cntE (dropE l nm).1 i = cntE l i - if x.ino = i then 1 else 0
  | y :: l, x, h, hx, e => by
    have h' := h
    unfold Srt at h
    rw [List.pairwise_cons] at h
    rw [drop_cons]
    rcases List.mem_cons.1 hx with rfl | hx'
    · rw [if_pos e, drop_none (fun z hz q => bl_ne (h.1 z hz) (e.trans q.symm)), cntE_cons]; omega
    · have hne : y.name ≠ nm := fun q => bl_ne (h.1 x hx') (q.trans e.symm)
      rw [if_neg hne, cntE_cons, cntE_cons, cnt_drop h.2 hx' e]; omega
/-- A name that comes and goes. -/
theorem drop_ins {nm : ByteArray} {ino : Int} : ∀ {l : List Entry}, (∀ x ∈ l, x.name ≠ nm) → (dropE (insE l nm ino) nm).1 = l
  | [], _ => by rw [insE, drop_cons, if_pos rfl]; rfl
  | x :: l, hn => by
    have hx := hn x (List.mem_cons_self ..)
    rw [insE]
    split
    · rw [drop_cons, if_pos rfl, drop_none hn]
    · rw [drop_cons, if_neg hx, drop_ins (fun z hz => hn z (List.mem_cons_of_mem _ hz))]
/-- A name that goes and comes. -/
theorem ins_drop {nm : ByteArray} {ino : Int} : ∀ {l : List Entry} {x : Entry}, Srt l → x ∈ l → x = ⟨nm, ino⟩ → insE (dropE l nm).1 nm ino = l
  | y :: l, x, h, hx, e => by
    unfold Srt at h
    rw [List.pairwise_cons] at h
    rw [drop_cons]
    rcases List.mem_cons.1 hx with rfl | hx'
    · subst e
      rw [if_pos rfl, drop_none (fun z hz q => bl_ne (h.1 z hz) q.symm)]
      cases l with
      | nil => rfl
      | cons z l =>
        have hz := h.1 z (List.mem_cons_self ..)
        rw [insE, if_pos (show Op.bytesLess nm.toList z.name.toList = true from hz)]
    · have h1 := h.1 x hx'
      have hne : y.name ≠ nm := fun q => bl_ne h1 (by rw [q, e])
      have h2 : ¬ Op.bytesLess nm.toList y.name.toList = true := fun q => by
        have h3 : bl x.name y.name = true := by rw [e]; exact q
        have := bl_ne (bl_trans h1 h3 : bl y.name y.name = true)
        exact this rfl
      rw [if_neg hne, insE, if_neg h2, ins_drop h.2 hx' e]
def timesL (L : List Node) (i : Int) : Int := sumF (fun n => cntE n.names i) L
theorem times_nn : ∀ (L : List Node) (i : Int), 0 ≤ timesL L i
  | [], _ => by simp [timesL, sumF]
  | x :: L, i => by
    have h1 := cntE_nn x.names i
    have h2 := times_nn L i
    unfold timesL at h2 ⊢
    rw [sumF_cons]; omega
theorem times_pos : ∀ {L : List Node} {i : Int} {n : Node} {x : Entry}, n ∈ L → x ∈ n.names → x.ino = i → 1 ≤ timesL L i
  | y :: L, i, n, x, hn, hx, hi => by
    unfold timesL
    rw [sumF_cons]
    have h2 := times_nn L i
    unfold timesL at h2
    rcases List.mem_cons.1 hn with rfl | hn'
    · have := cntE_pos hx hi; omega
    · have h1 := cntE_nn y.names i
      have := times_pos hn' hx hi
      unfold timesL at this; omega
theorem times_ex : ∀ {L : List Node} {i : Int}, 1 ≤ timesL L i → ∃ n ∈ L, ∃ x ∈ n.names, x.ino = i
  | [], i, h => by simp [timesL, sumF] at h
  | y :: L, i, h => by
    unfold timesL at h
    rw [sumF_cons] at h
    by_cases g : 1 ≤ cntE y.names i
    · obtain ⟨x, hx, e⟩ := cntE_ex g
      exact ⟨y, List.mem_cons_self .., x, hx, e⟩
    · obtain ⟨n, hn, x, hx, e⟩ := times_ex (L := L) (i := i) (by unfold timesL; have := cntE_nn y.names i; omega)
      exact ⟨n, List.mem_cons_of_mem _ hn, x, hx, e⟩
/-- A state whose names tell its links; P: how many more each node should have. -/
structure Tr (P : Int → Int) (s : St) : Prop where
  srt : ∀ n ∈ s.L, Srt n.names
  nmc : ∀ n ∈ s.L, ∀ x ∈ n.names, nameC x.name = 0
  kd : ∀ n ∈ s.L, n.kind = 1 ∨ n.kind = 2
  kf : ∀ n ∈ s.L, n.kind = 1 → n.names = [] ∧ n.up = 0
  ex : ∀ n ∈ s.L, ∀ x ∈ n.names, ∃ k ∈ s.L, k.ino = x.ino ∧ (k.kind = 2 → k.up = n.ino ∧ k.ino ≠ 1)
  ct : ∀ n ∈ s.L, timesL s.L n.ino + P n.ino = if n.kind = 2 then (if n.ino = 1 then 0 else 1) else n.links
  root : isDir s 1 = true
  rup : (dirN s 1).up = 1
  anc : ∀ n ∈ s.L, n.kind = 2 → Wi s 1 n.ino
  kl : ∀ n ∈ s.L, n.kind = 2 → n.links = 1 ∧ n.size = 0
theorem dirN_get {s : St} {i : Int} {n : Node} (h : getL s.L i = some n) : dirN s i = n := dirN_some h
theorem Wi.same {s t : St} {d i : Int} (h : Wi s d i) (hd : ∀ j, isDir s j = true → isDir t j = true ∧ (dirN t j).up = (dirN s j).up) : Wi t d i := by
  induction h with
  | refl => exact .refl
  | up h1 h2 _ ih =>
    obtain ⟨e1, e2⟩ := hd _ h1
    exact .up e1 (by rw [e2]; exact h2) (by rw [e2]; exact ih)
theorem isDir_get {s : St} {i : Int} {n : Node} (h : getL s.L i = some n) : isDir s i = decide (n.kind = 2) := by
  unfold isDir
  rw [dirN_some h, h]; simp
theorem isDir_no {s : St} {i : Int} (h : getL s.L i = none) : isDir s i = false := by
  unfold isDir; rw [h]; simp
/-- One node is another one: its names, or links. -/
theorem Tr.upd {P P' : Int → Int} {s : St} (h : Tr P s) (hI : Inos s.L) {n n' : Node} (hn : n ∈ s.L) (h1 : n'.ino = n.ino) (h2 : n'.kind = n.kind) (h3 : n'.up = n.up) (hs : Srt n'.names) (hc : ∀ x ∈ n'.names, nameC x.name = 0)
    (hf : n.kind = 1 → n'.names = []) (hl : n.kind = 2 → n'.links = 1 ∧ n'.size = 0)
    (hx : ∀ x ∈ n'.names, x ∈ n.names ∨ ∃ k ∈ s.L, k.ino = x.ino ∧ (k.kind = 2 → k.up = n.ino ∧ k.ino ≠ 1))
    (hP : ∀ i, P' i = P i + cntE n.names i - cntE n'.names i + (if i = n.ino ∧ n.kind = 1 then n'.links - n.links else 0)) : Tr P' ⟨setL s.L n', s.last⟩ := by
  have hg : getL s.L n'.ino = some n := by rw [h1]; exact getL_mem hI hn
  have hmem : ∀ {x : Node}, x ∈ setL s.L n' → x = n' ∨ (x ∈ s.L ∧ x.ino ≠ n.ino) := fun hx => by
    rcases mem_setL.1 hx with q | ⟨q1, q2⟩
    · exact .inl q
    · exact .inr ⟨q1, by rw [← h1]; exact q2⟩
  have hget : ∀ j, getL (setL s.L n') j = if n'.ino = j then some n' else getL s.L j := fun j => by rw [getL_set hI]
  have hdir : ∀ j, isDir s j = true → isDir ⟨setL s.L n', s.last⟩ j = true ∧ (dirN ⟨setL s.L n', s.last⟩ j).up = (dirN s j).up := fun j hj => by
    obtain ⟨x, q1, q2⟩ := isDir_iff.1 hj
    have hj' := hget j
    by_cases g : n'.ino = j
    · rw [if_pos g] at hj'
      have hnx : x = n := by
        have := getL_mem hI hn
        rw [← h1, g, q1] at this; exact Option.some.inj this
      subst hnx
      rw [isDir_get (s := ⟨setL s.L n', s.last⟩) hj', dirN_some (s := ⟨setL s.L n', s.last⟩) hj', dirN_some q1]
      exact ⟨by rw [h2]; simpa using q2, h3⟩
    · rw [if_neg g, q1] at hj'
      rw [isDir_get (s := ⟨setL s.L n', s.last⟩) hj', dirN_some (s := ⟨setL s.L n', s.last⟩) hj', dirN_some q1]
      exact ⟨by simpa using q2, rfl⟩
  have hex : ∀ {k : Node}, k ∈ s.L → ∃ k' ∈ setL s.L n', k'.ino = k.ino ∧ k'.kind = k.kind ∧ k'.up = k.up := fun {k} hk => by
    by_cases g : k.ino = n.ino
    · have : k = n := inos_inj hI hk hn g
      subst this
      exact ⟨n', mem_setL.2 (.inl rfl), h1, h2, h3⟩
    · exact ⟨k, mem_setL.2 (.inr ⟨hk, by rw [h1]; exact g⟩), rfl, rfl, rfl⟩
  refine ⟨fun x hx' => ?_, fun x hx' => ?_, fun x hx' => ?_, fun x hx' hk => ?_, fun x hx' y hy => ?_, fun x hx' => ?_, (hdir 1 h.root).1, (hdir 1 h.root).2.trans h.rup, fun x hx' hk => ?_, fun x hx' hk => ?_⟩
  · rcases hmem hx' with rfl | ⟨q, -⟩
    · exact hs
    · exact h.srt x q
  · rcases hmem hx' with rfl | ⟨q, -⟩
    · exact hc
    · exact h.nmc x q
  · rcases hmem hx' with rfl | ⟨q, -⟩
    · rw [h2]; exact h.kd n hn
    · exact h.kd x q
  · rcases hmem hx' with rfl | ⟨q, -⟩
    · exact ⟨hf (h2 ▸ hk), by rw [h3]; exact (h.kf n hn (h2 ▸ hk)).2⟩
    · exact h.kf x q hk
  · have base : ∃ k ∈ s.L, k.ino = y.ino ∧ (k.kind = 2 → k.up = x.ino ∧ k.ino ≠ 1) := by
      rcases hmem hx' with rfl | ⟨q, -⟩
      · rcases hx y hy with q | ⟨k, q1, q2, q3⟩
        · obtain ⟨k, q1, q2, q3⟩ := h.ex n hn y q
          exact ⟨k, q1, q2, fun e => by rw [h1]; exact q3 e⟩
        · exact ⟨k, q1, q2, fun e => by rw [h1]; exact q3 e⟩
      · exact h.ex x q y hy
    obtain ⟨k, q1, q2, q3⟩ := base
    obtain ⟨k', e1, e2, e3, e4⟩ := hex q1
    exact ⟨k', e1, e2.trans q2, fun e => by rw [e4, e2]; exact q3 (e3 ▸ e)⟩
  · have ht : timesL (setL s.L n') x.ino = timesL s.L x.ino - cntE n.names x.ino + cntE n'.names x.ino := by
      unfold timesL
      exact sum_set (f := fun n => cntE n.names x.ino) hI hg
    show timesL (setL s.L n') x.ino + P' x.ino = _
    rw [ht, hP]
    rcases hmem hx' with rfl | ⟨q, q'⟩
    · have h5 := h.ct n hn
      rw [h1, h2]
      rcases h.kd n hn with hk | hk
      · have e2 : ¬ n.kind = 2 := by omega
        rw [if_neg e2] at h5
        rw [if_pos (⟨rfl, hk⟩ : n.ino = n.ino ∧ n.kind = 1), if_neg e2]; omega
      · have e2 : ¬ (n.ino = n.ino ∧ n.kind = 1) := fun q => by omega
        rw [if_pos hk] at h5
        rw [if_neg e2, if_pos hk]; omega
    · have := h.ct x q
      rw [if_neg (fun e => q' e.1)]; omega
  · rcases hmem hx' with rfl | ⟨q, -⟩
    · rw [h1]; exact (h.anc n hn (h2 ▸ hk)).same hdir
    · exact (h.anc x q hk).same hdir
  · rcases hmem hx' with rfl | ⟨q, -⟩
    · exact hl (h2 ▸ hk)
    · exact h.kl x q hk
/-- A file, or a directory without names, that nothing names goes. -/
theorem Tr.del {P : Int → Int} {s : St} (h : Tr P s) (hI : Inos s.L) {n : Node} (hn : n ∈ s.L) (hnn : n.names = []) (h0 : timesL s.L n.ino = 0) (h1 : n.ino ≠ 1) (hP0 : n.kind = 2 → ∀ i, i ≠ n.ino → P i = 0) : Tr (fun i => if i = n.ino then 0 else P i) ⟨delL s.L n.ino, s.last⟩ := by
  have hgn := getL_mem hI hn
  have hget : ∀ j, j ≠ n.ino → getL (delL s.L n.ino) j = getL s.L j := fun j hj => by
    cases hg : getL s.L j with
    | none =>
      refine getL_no fun x hx q => ?_
      exact getL_none hg x (mem_delL.1 hx).1 q
    | some x =>
      obtain ⟨q1, q2⟩ := getL_some hg
      have := getL_mem (inos_delL hI n.ino) (mem_delL.2 ⟨q1, by rw [q2]; exact hj⟩)
      rw [q2] at this; exact this
  have htm : ∀ i, timesL (delL s.L n.ino) i = timesL s.L i := fun i => by
    have := sum_del (f := fun n => cntE n.names i) hI hgn
    unfold timesL
    rw [this, hnn]
    simp [cntE]
  -- no directory is below it
  have hup : n.kind = 2 → ∀ k ∈ s.L, k.kind = 2 → k.ino ≠ n.ino → k.up ≠ n.ino := fun hk2 k hk hkk hne e => by
    by_cases g : k.ino = 1
    · have := h.rup
      have hg1 := getL_mem hI hk
      rw [g] at hg1
      rw [dirN_some hg1] at this
      omega
    · have hct := h.ct k hk
      rw [if_pos hkk, if_neg g, hP0 hk2 k.ino hne] at hct
      obtain ⟨m, hm, x, hx, hxi⟩ := times_ex (L := s.L) (i := k.ino) (by omega)
      obtain ⟨k', q1, q2, q3⟩ := h.ex m hm x hx
      have : k' = k := inos_inj hI q1 hk (q2.trans hxi)
      subst this
      have hmn : m = n := inos_inj hI hm hn ((q3 hkk).1.symm.trans e)
      rw [hmn, hnn] at hx; cases hx
  have hwi : ∀ i, Wi s 1 i → i ≠ n.ino → Wi ⟨delL s.L n.ino, s.last⟩ 1 i := fun i hi => by
    induction hi with
    | refl => exact fun _ => .refl
    | @up i q1 q2 q3 ih =>
      intro hne
      obtain ⟨x, g1, g2⟩ := isDir_iff.1 q1
      have hx := getL_some g1
      have hgx : getL (delL s.L n.ino) i = some x := by rw [hget i hne, g1]
      have hdx : dirN ⟨delL s.L n.ino, s.last⟩ i = dirN s i := by rw [dirN_some (s := ⟨delL s.L n.ino, s.last⟩) hgx, dirN_some g1]
      have hun : (dirN s i).up ≠ n.ino := by
        rw [dirN_some g1]
        rcases h.kd n hn with hk | hk
        · intro e
          rw [dirN_some g1, e] at q3
          -- what is above a directory is one
          generalize hni : n.ino = ni at q3
          cases q3 with
          | refl => exact h1 hni
          | up r1 _ _ => rw [← hni, isDir_get hgn] at r1; simp at r1; omega
        · exact hup hk x hx.1 g2 (by rw [hx.2]; exact hne)
      exact .up (by rw [isDir_get (s := ⟨delL s.L n.ino, s.last⟩) hgx]; simpa using g2) (by rw [hdx]; exact q2) (by rw [hdx]; exact ih hun)
  have h1' : getL (delL s.L n.ino) 1 = getL s.L 1 := hget 1 (fun e => h1 e.symm)
  obtain ⟨r, r1, r2⟩ := isDir_iff.1 h.root
  rw [r1] at h1'
  refine ⟨fun x hx => h.srt x (mem_delL.1 hx).1, fun x hx => h.nmc x (mem_delL.1 hx).1, fun x hx => h.kd x (mem_delL.1 hx).1, fun x hx => h.kf x (mem_delL.1 hx).1, fun x hx y hy => ?_, fun x hx => ?_, ?_, ?_, fun x hx hk => ?_, fun x hx => h.kl x (mem_delL.1 hx).1⟩
  · obtain ⟨k, q1, q2, q3⟩ := h.ex x (mem_delL.1 hx).1 y hy
    refine ⟨k, mem_delL.2 ⟨q1, fun e => ?_⟩, q2, q3⟩
    have := times_pos (mem_delL.1 hx).1 hy (q2.symm.trans e)
    omega
  · have := h.ct x (mem_delL.1 hx).1
    show timesL (delL s.L n.ino) x.ino + _ = _
    rw [htm, if_neg (mem_delL.1 hx).2]; exact this
  · rw [isDir_get (s := ⟨delL s.L n.ino, s.last⟩) h1']; simpa using r2
  · have := h.rup
    rw [dirN_some r1] at this
    rw [dirN_some (s := ⟨delL s.L n.ino, s.last⟩) h1']; exact this
  · exact hwi x.ino (h.anc x (mem_delL.1 hx).1 hk) (mem_delL.1 hx).2
/-- A new node that nothing names. -/
theorem Tr.add {P : Int → Int} {s : St} (h : Tr P s) (hI : Inos s.L) {n : Node} (hno : getL s.L n.ino = none) (hk : n.kind = 1 ∨ n.kind = 2) (hn : n.names = []) (hf : n.kind = 1 → n.up = 0) (hd : n.kind = 2 → n.links = 1 ∧ n.size = 0 ∧ isDir s n.up = true) (last : Int) :
    Tr (fun i => if i = n.ino then (if n.kind = 2 then 1 else n.links) else P i) ⟨setL s.L n, last⟩ := by
  have hset : setL s.L n = s.L ++ [n] := setL_new hno
  have hget : ∀ j, getL (setL s.L n) j = if n.ino = j then some n else getL s.L j := fun j => by rw [getL_set hI]
  have h1 : n.ino ≠ 1 := fun e => by
    obtain ⟨r, r1, -⟩ := isDir_iff.1 h.root
    rw [e, r1] at hno; cases hno
  have hdir : ∀ j, isDir s j = true → isDir ⟨setL s.L n, last⟩ j = true ∧ (dirN ⟨setL s.L n, last⟩ j).up = (dirN s j).up := fun j hj => by
    obtain ⟨x, q1, q2⟩ := isDir_iff.1 hj
    have hj' := hget j
    rw [if_neg (fun e => by rw [e, q1] at hno; cases hno), q1] at hj'
    rw [isDir_get (s := ⟨setL s.L n, last⟩) hj', dirN_some (s := ⟨setL s.L n, last⟩) hj', dirN_some q1]
    exact ⟨by simpa using q2, rfl⟩
  have hmem : ∀ {x : Node}, x ∈ setL s.L n → x = n ∨ (x ∈ s.L ∧ x.ino ≠ n.ino) := fun hx => mem_setL.1 hx
  have ht : ∀ i, timesL (setL s.L n) i = timesL s.L i := fun i => by
    rw [hset]; unfold timesL; rw [sumF_app]
    simp [sumF, cntE, hn]
  have ht0 : timesL s.L n.ino = 0 := by
    by_cases g : 1 ≤ timesL s.L n.ino
    rotate_left
    · have := times_nn s.L n.ino; omega
    · obtain ⟨m, hm, x, hx, e⟩ := times_ex g
      obtain ⟨k, q1, q2, -⟩ := h.ex m hm x hx
      have := getL_none hno k q1
      exact absurd (q2.trans e) this
  refine ⟨fun x hx => ?_, fun x hx => ?_, fun x hx => ?_, fun x hx hk1 => ?_, fun x hx y hy => ?_, fun x hx => ?_, (hdir 1 h.root).1, (hdir 1 h.root).2.trans h.rup, fun x hx hk2 => ?_, fun x hx hk2 => ?_⟩
  · rcases hmem hx with rfl | ⟨q, -⟩
    · rw [hn]; exact List.Pairwise.nil
    · exact h.srt x q
  · rcases hmem hx with rfl | ⟨q, -⟩
    · rw [hn]; intro y hy; cases hy
    · exact h.nmc x q
  · rcases hmem hx with rfl | ⟨q, -⟩
    · exact hk
    · exact h.kd x q
  · rcases hmem hx with rfl | ⟨q, -⟩
    · exact ⟨hn, hf hk1⟩
    · exact h.kf x q hk1
  · rcases hmem hx with rfl | ⟨q, -⟩
    · rw [hn] at hy; cases hy
    · obtain ⟨k, q1, q2, q3⟩ := h.ex x q y hy
      exact ⟨k, mem_setL.2 (.inr ⟨q1, getL_none hno k q1⟩), q2, q3⟩
  · show timesL (setL s.L n) x.ino + _ = _
    rw [ht]
    rcases hmem hx with rfl | ⟨q, q'⟩
    · rw [ht0, if_pos rfl]
      split
      · first | omega | (rw [if_neg h1]; omega)
      · omega
    · rw [if_neg q']; exact h.ct x q
  · rcases hmem hx with rfl | ⟨q, -⟩
    · obtain ⟨-, -, hu⟩ := hd hk2
      obtain ⟨u, u1, u2⟩ := isDir_iff.1 hu
      obtain ⟨u3, u4⟩ := getL_some u1
      have hgx := hget x.ino
      rw [if_pos rfl] at hgx
      have hdx := dirN_some (s := ⟨setL s.L x, last⟩) hgx
      have hw := h.anc u u3 u2
      rw [u4] at hw
      refine .up (by rw [isDir_get (s := ⟨setL s.L x, last⟩) hgx]; simpa using hk2) (by rw [hdx]; intro e; rw [e] at u1; rw [u1] at hno; cases hno) ?_
      rw [hdx]; exact hw.same hdir
    · exact (h.anc x q hk2).same hdir
  · rcases hmem hx with rfl | ⟨q, -⟩
    · exact ⟨(hd hk2).1, (hd hk2).2.1⟩
    · exact h.kl x q hk2
/-- A directory that nothing names is in another one. -/
theorem Tr.move {P : Int → Int} {s : St} (h : Tr P s) (hI : Inos s.L) {n : Node} (hn : n ∈ s.L) (hk : n.kind = 2) (h1 : n.ino ≠ 1) (h0 : timesL s.L n.ino = 0) {to : Int} (ht : Wi s 1 to) (hw : ¬ Wi s n.ino to) : Tr P ⟨setL s.L { n with up := to }, s.last⟩ := by
  have hgn := getL_mem hI hn
  have hget : ∀ j, getL (setL s.L { n with up := to }) j = if n.ino = j then some { n with up := to } else getL s.L j := fun j => getL_set hI _ j
  have hmem : ∀ {x : Node}, x ∈ setL s.L { n with up := to } → x = { n with up := to } ∨ (x ∈ s.L ∧ x.ino ≠ n.ino) := fun hx => mem_setL.1 hx
  have hne : ∀ j, j ≠ n.ino → isDir s j = true → isDir ⟨setL s.L { n with up := to }, s.last⟩ j = true ∧ (dirN ⟨setL s.L { n with up := to }, s.last⟩ j).up = (dirN s j).up := fun j hj hd => by
    obtain ⟨x, q1, q2⟩ := isDir_iff.1 hd
    have hj' := hget j
    rw [if_neg (fun e => hj e.symm), q1] at hj'
    rw [isDir_get (s := ⟨setL s.L { n with up := to }, s.last⟩) hj', dirN_some (s := ⟨setL s.L { n with up := to }, s.last⟩) hj', dirN_some q1]
    exact ⟨by simpa using q2, rfl⟩
  have hgn' : getL (setL s.L { n with up := to }) n.ino = some { n with up := to } := by rw [hget, if_pos rfl]
  have hdn := dirN_some (s := ⟨setL s.L { n with up := to }, s.last⟩) hgn'
  have av : ∀ i, Wi s 1 i → ¬ Wi s n.ino i → Wi ⟨setL s.L { n with up := to }, s.last⟩ 1 i := fun i hi => by
    induction hi with
    | refl => exact fun _ => .refl
    | @up i q1 q2 _ ih =>
      intro hnot
      have hi : i ≠ n.ino := fun e => hnot (by rw [e]; exact .refl)
      obtain ⟨e1, e2⟩ := hne i hi q1
      exact .up e1 (by rw [e2]; exact q2) (by rw [e2]; exact ih (fun g => hnot (.up q1 q2 g)))
  have hto : to ≠ n.ino := fun e => hw (by rw [e]; exact .refl)
  have hnw : Wi ⟨setL s.L { n with up := to }, s.last⟩ 1 n.ino :=
    .up (by rw [isDir_get (s := ⟨setL s.L { n with up := to }, s.last⟩) hgn']; simpa using hk) (by rw [hdn]; exact hto) (by rw [hdn]; exact av to ht hw)
  have all : ∀ i, Wi s 1 i → Wi ⟨setL s.L { n with up := to }, s.last⟩ 1 i := fun i hi => by
    induction hi with
    | refl => exact .refl
    | @up i q1 q2 _ ih =>
      by_cases hi : i = n.ino
      · rw [hi]; exact hnw
      · obtain ⟨e1, e2⟩ := hne i hi q1
        exact .up e1 (by rw [e2]; exact q2) (by rw [e2]; exact ih)
  have htm : ∀ i, timesL (setL s.L { n with up := to }) i = timesL s.L i := fun i => by
    have := sum_set (f := fun n => cntE n.names i) (n := { n with up := to }) hI hgn
    unfold timesL
    rw [this]
    show sumF (fun n => cntE n.names i) s.L - cntE n.names i + cntE n.names i = _
    omega
  have h1n := hne 1 (fun e => h1 e.symm) h.root
  refine ⟨fun x hx => ?_, fun x hx => ?_, fun x hx => ?_, fun x hx hk1 => ?_, fun x hx y hy => ?_, fun x hx => ?_, h1n.1, h1n.2.trans h.rup, fun x hx hk2 => ?_, fun x hx hk2 => ?_⟩
  · rcases hmem hx with rfl | ⟨q, -⟩
    · exact h.srt n hn
    · exact h.srt x q
  · rcases hmem hx with rfl | ⟨q, -⟩
    · exact h.nmc n hn
    · exact h.nmc x q
  · rcases hmem hx with rfl | ⟨q, -⟩
    · exact h.kd n hn
    · exact h.kd x q
  · rcases hmem hx with rfl | ⟨q, -⟩
    · have : n.kind = 1 := hk1
      omega
    · exact h.kf x q hk1
  · obtain ⟨m, hm, hmi, hmy⟩ : ∃ m ∈ s.L, m.ino = x.ino ∧ y ∈ m.names := by
      rcases hmem hx with rfl | ⟨q, -⟩
      · exact ⟨n, hn, rfl, hy⟩
      · exact ⟨x, q, rfl, hy⟩
    obtain ⟨k, q1, q2, q3⟩ := h.ex m hm y hmy
    have hki : k.ino ≠ n.ino := fun e => by have := times_pos hm hmy (q2.symm.trans e); omega
    exact ⟨k, mem_setL.2 (.inr ⟨q1, hki⟩), q2, fun e => by rw [← hmi]; exact q3 e⟩
  · show timesL (setL s.L { n with up := to }) x.ino + _ = _
    rw [htm]
    rcases hmem hx with rfl | ⟨q, -⟩
    · exact h.ct n hn
    · exact h.ct x q
  · rcases hmem hx with rfl | ⟨q, -⟩
    · exact hnw
    · exact all x.ino (h.anc x q hk2)
  · rcases hmem hx with rfl | ⟨q, -⟩
    · exact h.kl n hn hk
    · exact h.kl x q hk2
theorem Tr.congr {P P' : Int → Int} {s : St} (h : Tr P s) (hP : ∀ n ∈ s.L, P n.ino = P' n.ino) {last : Int} : Tr P' ⟨s.L, last⟩ :=
  ⟨h.srt, h.nmc, h.kd, h.kf, h.ex, fun n hn => by rw [← hP n hn]; exact h.ct n hn, h.root, h.rup, fun n hn hk => (h.anc n hn hk).same (fun _ q => ⟨q, rfl⟩), h.kl⟩
end Go.Proofs.YtdfjfagljngciaaGreat

set_option linter.all false
set_option maxRecDepth 100000
set_option maxHeartbeats 4000000
namespace Go.Proofs.YtdfjfagljngciaaGreat
open Go.RowKit Rx Go.MapKept

theorem set_new_comm {L : List Node} {d n : Node} (hd : (getL L d.ino).isSome = true) (hn : getL L n.ino = none) : setL (setL L d) n = setL (setL L n) d := by
  have hne : d.ino ≠ n.ino := fun e => by rw [e, hn] at hd; cases hd
  have hno : getL (setL L d) n.ino = none := by
    refine getL_no fun x hx q => ?_
    rcases mem_setL.1 hx with rfl | ⟨q1, -⟩
    · exact hne q
    · exact getL_none hn x q1 q
  have hds : (getL (L ++ [n]) d.ino).isSome = true := by
    obtain ⟨y, hy⟩ := Option.isSome_iff_exists.1 hd
    unfold getL at hy ⊢
    rw [List.find?_append, hy]; rfl
  rw [setL_new hno, setL_new hn, setL_len hd, setL_len hds, List.map_append]
  simp
  exact fun e => absurd e.symm hne
theorem set_comm {L : List Node} {a b : Node} (ha : (getL L a.ino).isSome = true) (hb : (getL L b.ino).isSome = true) (hne : a.ino ≠ b.ino) : setL (setL L a) b = setL (setL L b) a := by
  rw [setL_len (getL_setL hb), setL_len (getL_setL ha), setL_len ha, setL_len hb, List.map_map, List.map_map]
  apply List.map_congr_left
  intro x _
  simp only [Function.comp]
  by_cases g1 : x.ino = a.ino
  · have g2 : ¬ x.ino = b.ino := fun e => hne (g1.symm.trans e)
    rw [if_pos g1, if_neg g2, if_pos g1, if_neg hne]
  · by_cases g2 : x.ino = b.ino
    · rw [if_neg g1, if_pos g2, if_neg (fun e => hne e.symm)]
    · rw [if_neg g1, if_neg g2, if_neg g1]
theorem put_new {l : List Entry} {nm : ByteArray} {ino : Int} (h : (putE l nm ino).2 = true) : (putE l nm ino).1 = insE l nm ino ∧ ∀ x ∈ l, x.name ≠ nm := by
  unfold putE at h ⊢
  split at h
  · cases h
  · rename_i g
    rw [if_neg g]
    refine ⟨rfl, fun x hx e => g ?_⟩
    unfold hasE
    rw [List.any_eq_true]
    exact ⟨x, hx, by simpa using e⟩
theorem find_mem {l : List Entry} {nm : ByteArray} (h : (findN l nm).2 = true) : ∃ x ∈ l, x.name = nm ∧ x.ino = (findN l nm).1 := by
  unfold findN at h ⊢
  cases hf : l.find? (fun x => decide (x.name = nm)) with
  | none => rw [hf] at h; cases h
  | some x => exact ⟨x, List.mem_of_find?_eq_some hf, by simpa using List.find?_some hf, rfl⟩
theorem inos_setL' {L : List Node} (h : Inos L) (n : Node) : Inos (setL L n) := inos_setL h n
theorem Tr.z {s : St} {P : Int → Int} (h : Tr P s) (hP : ∀ i, P i = 0) : Tr (fun _ => 0) s := h.congr (fun n _ => hP n.ino)
/-- A name more. -/
theorem Tr.put {P : Int → Int} {s : St} (h : Tr P s) (hI : Inos s.L) {d : Node} (hd : d ∈ s.L) (hk : d.kind = 2) {nm : ByteArray} (hc : nameC nm = 0) (hn : ∀ x ∈ d.names, x.name ≠ nm) {j : Int} (hj : ∃ k ∈ s.L, k.ino = j ∧ (k.kind = 2 → k.up = d.ino ∧ k.ino ≠ 1)) :
    Tr (fun i => P i - if j = i then 1 else 0) ⟨setL s.L { d with names := insE d.names nm j }, s.last⟩ := by
  refine h.upd hI hd rfl rfl rfl (srt_ins (h.srt d hd) hn) (fun x hx => ?_) (fun e => by omega) (fun e => h.kl d hd e) (fun x hx => ?_) (fun i => ?_)
  · rcases mem_insE.1 hx with rfl | q
    · exact hc
    · exact h.nmc d hd x q
  · rcases mem_insE.1 hx with rfl | q
    · exact .inr hj
    · exact .inl q
  · rw [if_neg (fun q => by have := q.2; omega : ¬ (i = d.ino ∧ d.kind = 1))]
    show _ = P i + cntE d.names i - cntE (insE d.names nm j) i + 0
    rw [cnt_ins]; omega
/-- A name less. -/
theorem Tr.cut {P : Int → Int} {s : St} (h : Tr P s) (hI : Inos s.L) {d : Node} (hd : d ∈ s.L) (hk : d.kind = 2) {nm : ByteArray} {x : Entry} (hx : x ∈ d.names) (hn : x.name = nm) :
    Tr (fun i => P i + if x.ino = i then 1 else 0) ⟨setL s.L { d with names := (dropE d.names nm).1 }, s.last⟩ := by
  refine h.upd hI hd rfl rfl rfl (srt_drop (h.srt d hd) nm) (fun y hy => h.nmc d hd y (List.mem_filter.1 hy).1) (fun e => by omega) (fun e => h.kl d hd e) (fun y hy => .inl (List.mem_filter.1 hy).1) (fun i => ?_)
  rw [if_neg (fun q => by have := q.2; omega : ¬ (i = d.ino ∧ d.kind = 1))]
  show _ = P i + cntE d.names i - cntE (dropE d.names nm).1 i + 0
  rw [cnt_drop (h.srt d hd) hx hn]; omega
/-- A file's links. -/
theorem Tr.links {P : Int → Int} {s : St} (h : Tr P s) (hI : Inos s.L) {n : Node} (hn : n ∈ s.L) (hk : n.kind = 1) (l : Int) :
    Tr (fun i => P i + if i = n.ino then l - n.links else 0) ⟨setL s.L { n with links := l }, s.last⟩ := by
  refine h.upd hI hn rfl rfl rfl (h.srt n hn) (h.nmc n hn) (fun e => (h.kf n hn e).1) (fun e => by omega) (fun y hy => .inl hy) (fun i => ?_)
  by_cases g : i = n.ino
  · rw [if_pos g, if_pos ⟨g, hk⟩]; show _ = P i + cntE n.names i - cntE n.names i + (l - n.links); omega
  · rw [if_neg g, if_neg (fun q => g q.1)]; show _ = P i + cntE n.names i - cntE n.names i + 0; omega
/-- A file's pages and size. -/
theorem Tr.pages {P : Int → Int} {s : St} (h : Tr P s) (hI : Inos s.L) {n n' : Node} (hn : n ∈ s.L) (hk : n.kind = 1) (h1 : n'.ino = n.ino) (h2 : n'.kind = n.kind) (h3 : n'.up = n.up) (h4 : n'.names = n.names) (h5 : n'.links = n.links) : Tr P ⟨setL s.L n', s.last⟩ := by
  refine h.upd hI hn h1 h2 h3 (by rw [h4]; exact h.srt n hn) (by rw [h4]; exact h.nmc n hn) (fun e => by rw [h4]; exact (h.kf n hn e).1) (fun e => by omega) (fun y hy => .inl (h4 ▸ hy)) (fun i => ?_)
  rw [h4, h5]
  split <;> omega
theorem dirN_mem {k : Nat} {s : St} (hg : Good k s) {i : Int} (h : isDir s i = true) : dirN s i ∈ s.L ∧ (dirN s i).ino = i ∧ (dirN s i).kind = 2 := by
  obtain ⟨h1, h2⟩ := isDir_some h
  obtain ⟨-, q2, q3⟩ := hg.node h1
  exact ⟨q3, q2, h2⟩
theorem fileN_mem {k : Nat} {s : St} (hg : Good k s) {i : Int} (h : isFile s i = true) : dirN s i ∈ s.L ∧ (dirN s i).ino = i ∧ (dirN s i).kind = 1 := by
  obtain ⟨h1, h2⟩ := isFile_some h
  obtain ⟨-, q2, q3⟩ := hg.node h1
  exact ⟨q3, q2, h2⟩
theorem tree_make {k : Nat} {s t : St} (hg : Good k s) (ht : Tr (fun _ => 0) s) {e : Effect} (hc : nameC e.name = 0) (hp : e.page = 1 ∨ e.page = 2) (h : makeS s e = some t) : Tr (fun _ => 0) t := by
  unfold makeS at h
  simp only at h
  split at h
  · rename_i g
    obtain ⟨g1, g2, g3⟩ := g
    simp only [Option.some.injEq] at h
    subst h
    obtain ⟨d1, d2, d3⟩ := dirN_mem hg g1
    obtain ⟨p1, p2⟩ := put_new g2
    have l0 := hg.l0
    have hno : getL s.L (newN e.ino e.page e.dir).ino = none := getL_no fun x hx q => by have := hg.pos x hx; have q' : x.ino = e.ino := q; omega
    have h1 := ht.add hg.inos (n := newN e.ino e.page e.dir) hno hp rfl (fun q => by show (if e.page = 2 then e.dir else 0) = 0; rw [if_neg (by have q' : e.page = 1 := q; omega)]) (fun q => ⟨rfl, rfl, by show isDir s (if e.page = 2 then e.dir else 0) = true; rw [if_pos (show e.page = 2 from q)]; exact g1⟩) s.last
    have hI1 : Inos (setL s.L (newN e.ino e.page e.dir)) := inos_setL hg.inos _
    have hdm : dirN s e.dir ∈ setL s.L (newN e.ino e.page e.dir) := mem_setL.2 (.inr ⟨d1, getL_none hno _ d1⟩)
    have h2 := h1.put hI1 hdm d3 hc p2 (j := e.ino) ⟨newN e.ino e.page e.dir, mem_setL.2 (.inl rfl), rfl, fun q => ⟨by show (if e.page = 2 then e.dir else 0) = _; rw [if_pos (show e.page = 2 from q), d2], by show e.ino ≠ 1; omega⟩⟩
    rw [p1, set_new_comm (by show (getL s.L (dirN s e.dir).ino).isSome = true; rw [d2]; exact (isDir_some g1).1) hno]
    refine h2.congr (fun n hn => ?_)
    show (if n.ino = e.ino then (if e.page = 2 then (1 : Int) else 1) else 0) - (if e.ino = n.ino then 1 else 0) = 0
    by_cases q : n.ino = e.ino
    · rw [if_pos q, if_pos q.symm]; split <;> rfl
    · rw [if_neg q, if_neg (fun z => q z.symm)]; rfl
  · cases h
theorem tree_link {k : Nat} {s t : St} (hg : Good k s) (ht : Tr (fun _ => 0) s) {e : Effect} (hc : nameC e.name = 0) (h : linkS s e = some t) : Tr (fun _ => 0) t := by
  unfold linkS at h
  simp only at h
  split at h
  · rename_i g
    obtain ⟨g1, g2, g3, g4, g5⟩ := g
    simp only [Option.some.injEq] at h
    subst h
    obtain ⟨d1, d2, d3⟩ := dirN_mem hg g1
    obtain ⟨f1, f2, f3⟩ := fileN_mem hg g2
    obtain ⟨p1, p2⟩ := put_new g3
    have h1 := ht.put hg.inos d1 d3 hc p2 (j := e.ino) ⟨dirN s e.ino, f1, f2, fun q => by omega⟩
    have hI1 : Inos (setL s.L { dirN s e.dir with names := insE (dirN s e.dir).names e.name e.ino }) := inos_setL hg.inos _
    have hfm : dirN s e.ino ∈ setL s.L { dirN s e.dir with names := insE (dirN s e.dir).names e.name e.ino } := mem_setL.2 (.inr ⟨f1, fun q => by
      have := inos_inj hg.inos f1 d1 q
      rw [this] at f3; omega⟩)
    have h2 := h1.links hI1 hfm f3 ((dirN s e.ino).links + 1)
    rw [p1]
    refine h2.congr (fun n hn => ?_)
    show (0 : Int) - (if e.ino = n.ino then 1 else 0) + (if n.ino = (dirN s e.ino).ino then (dirN s e.ino).links + 1 - (dirN s e.ino).links else 0) = 0
    rw [f2]
    by_cases q : n.ino = e.ino
    · rw [if_pos q.symm, if_pos q]; omega
    · rw [if_neg (fun z => q z.symm), if_neg q]; omega
  · cases h
theorem tree_off {k : Nat} {s : St} (hg : Good k s) (ht : Tr (fun _ => 0) s) {dir : Int} {nm : ByteArray} {ino kind : Int} (h : mayS s dir nm ino kind = true) : Tr (fun _ => 0) (offS s dir nm ino) := by
  unfold mayS at h
  simp only [Bool.and_eq_true, Bool.or_eq_true, decide_eq_true_eq, Bool.not_eq_true', decide_eq_false_iff_not] at h
  obtain ⟨⟨⟨⟨⟨g1, g2⟩, g3⟩, g4⟩, g5⟩, g6⟩ := h
  obtain ⟨d1, d2, d3⟩ := dirN_mem hg g1
  obtain ⟨x, x1, x2, x3⟩ := find_mem g2
  rw [g3] at x3
  have h1 := ht.cut hg.inos d1 d3 x1 x2
  have hI1 : Inos (offL s dir nm) := inos_setL hg.inos _
  obtain ⟨-, n2, n3⟩ := hg.node g4
  have hne : ino ≠ dir := fun e => by
    rcases g6 with q | ⟨q, -⟩
    · rw [e, d3] at g5; omega
    · rw [e] at q
      have : (dirN s dir).names = [] := List.length_eq_zero_iff.1 q
      rw [this] at x1; cases x1
  have hnm : dirN s ino ∈ offL s dir nm := mem_setL.2 (.inr ⟨n3, fun q => hne (by rw [← n2, q]; exact d2)⟩)
  have hget : getL (offL s dir nm) ino = some (dirN s ino) := by
    have := getL_mem hI1 hnm
    rw [n2] at this; exact this
  unfold offS
  rw [hget, Option.getD_some]
  rw [x3] at h1
  rcases ht.kd _ n3 with hk | hk
  · rw [if_neg (by omega)]
    have h2 := h1.links hI1 hnm hk ((dirN s ino).links - 1)
    refine h2.congr (fun n hn => ?_)
    show (0 : Int) + (if ino = n.ino then 1 else 0) + (if n.ino = (dirN s ino).ino then (dirN s ino).links - 1 - (dirN s ino).links else 0) = 0
    rw [n2]
    by_cases q : n.ino = ino
    · rw [if_pos q.symm, if_pos q]; omega
    · rw [if_neg (fun z => q z.symm), if_neg q]; omega
  · rw [if_pos hk]
    have g6' : (dirN s ino).names.length = 0 ∧ ¬ ino = 1 := by
      rcases g6 with q | q
      · omega
      · exact q
    have hnn : (dirN s ino).names = [] := List.length_eq_zero_iff.1 g6'.1
    have hct := h1.ct _ hnm
    rw [if_pos hk, n2, if_neg g6'.2] at hct
    have hct' : timesL (offL s dir nm) ino + (0 + if ino = ino then 1 else 0) = 1 := hct
    rw [if_pos rfl] at hct'
    have h0 : timesL (offL s dir nm) (dirN s ino).ino = 0 := by rw [n2]; omega
    have h2 := h1.del hI1 hnm hnn h0 (by rw [n2]; exact g6'.2) (fun _ i hi => by
      rw [n2] at hi
      show (0 : Int) + (if ino = i then 1 else 0) = 0
      rw [if_neg (fun z => hi z.symm)]; rfl)
    rw [n2] at h2
    refine h2.congr (fun n hn => ?_)
    show (if n.ino = ino then (0 : Int) else 0 + if ino = n.ino then 1 else 0) = 0
    by_cases q : n.ino = ino
    · rw [if_pos q]
    · rw [if_neg q, if_neg (fun z => q z.symm)]; rfl
theorem tree_pages {k : Nat} {s t : St} (hg : Good k s) (ht : Tr (fun _ => 0) s) {e : Effect} {ref : Int} {gone : List Int} (h : truncS s e = some (t, gone) ∨ writeS s e ref = some (t, gone)) : Tr (fun _ => 0) t := by
  rcases h with h | h
  · unfold truncS at h
    split at h
    · rename_i g
      simp only [Option.some.injEq, Prod.mk.injEq] at h
      obtain ⟨rfl, -⟩ := h
      obtain ⟨f1, f2, f3⟩ := fileN_mem hg g
      refine ht.pages hg.inos f1 f3 (resizeN_ino _ _) ?_ ?_ (resizeN_names _ _) ?_ <;> (unfold resizeN; simp only; repeat' split) <;> rfl
    · cases h
  · unfold writeS at h
    split at h
    · rename_i g
      simp only [Option.some.injEq, Prod.mk.injEq] at h
      obtain ⟨rfl, -⟩ := h
      obtain ⟨f1, f2, f3⟩ := fileN_mem hg g.1
      refine ht.pages hg.inos f1 f3 ?_ ?_ ?_ ?_ ?_ <;> (unfold putN resizeN; simp only; repeat' split) <;> rfl
    · cases h
theorem tree_drop {k : Nat} {s t : St} (hg : Good k s) (ht : Tr (fun _ => 0) s) {e : Effect} {gone : List Int} (h : dropS s e = some (t, gone)) : Tr (fun _ => 0) t := by
  unfold dropS at h
  split at h
  · rename_i g
    simp only [Option.some.injEq, Prod.mk.injEq] at h
    obtain ⟨rfl, -⟩ := h
    obtain ⟨f1, f2, f3⟩ := fileN_mem hg g.1
    have hct := ht.ct _ f1
    rw [if_neg (by omega)] at hct
    have hnn := times_nn s.L (dirN s e.ino).ino
    have h2 := ht.del hg.inos f1 (ht.kf _ f1 f3).1 (by have := g.2; omega) (fun q => by
      obtain ⟨r, r1, r2⟩ := isDir_iff.1 ht.root
      rw [f2] at q
      rw [q, dirN_some r1] at f3
      omega) (fun _ _ _ => rfl)
    rw [f2] at h2
    exact h2.congr (fun n hn => by show (if n.ino = e.ino then (0 : Int) else 0) = 0; split <;> rfl)
  · cases h
/-- What a name's node is called where it goes to, and where it comes from. -/
theorem tree_moveS {k : Nat} {s : St} (hg : Good k s) (ht : Tr (fun _ => 0) s) {e : Effect} (hc : nameC e.other = 0) (h1 : isDir s e.dir = true) (h2 : isDir s e.to = true) (h3 : (getL s.L e.ino).isSome = true) (h4 : (findN (dirN s e.dir).names e.name).2 = true) (h5 : (findN (dirN s e.dir).names e.name).1 = e.ino)
    (h6 : ¬ ((dirN s e.ino).kind = 2 ∧ withinS s e.to e.ino = true)) (h7 : ∀ x ∈ (dirN s e.to).names, x.name = e.other → e.dir = e.to ∧ e.name = e.other) : Tr (fun _ => 0) (moveS s e (dirN s e.ino).kind) := by
  obtain ⟨d1, d2, d3⟩ := dirN_mem hg h1
  obtain ⟨t1, t2, t3⟩ := dirN_mem hg h2
  obtain ⟨-, n2, n3⟩ := hg.node h3
  obtain ⟨x, x1, x2, x3⟩ := find_mem h4
  rw [h5] at x3
  have c1 := ht.cut hg.inos d1 d3 x1 x2
  rw [x3] at c1
  unfold moveS
  simp only
  have hI2 : Inos (setL s.L { dirN s e.dir with names := (dropE (dirN s e.dir).names e.name).1 }) := inos_setL hg.inos _
  have hgd : getL s.L (dirN s e.dir).ino = some (dirN s e.dir) := getL_mem hg.inos d1
  have hget2 : ∀ j, getL (setL s.L { dirN s e.dir with names := (dropE (dirN s e.dir).names e.name).1 }) j = if (dirN s e.dir).ino = j then some { dirN s e.dir with names := (dropE (dirN s e.dir).names e.name).1 } else getL s.L j := fun j => getL_set hg.inos _ j
  generalize hL2 : setL s.L { dirN s e.dir with names := (dropE (dirN s e.dir).names e.name).1 } = L2 at c1 hI2 hget2 ⊢
  rw [d2] at hget2
  -- directories stay where they are
  have same1 : ∀ j, isDir s j = true → isDir ⟨L2, s.last⟩ j = true ∧ (dirN ⟨L2, s.last⟩ j).up = (dirN s j).up := fun j hj => by
    obtain ⟨y, q1, q2⟩ := isDir_iff.1 hj
    have hj2 := hget2 j
    by_cases g : e.dir = j
    · rw [if_pos g] at hj2
      rw [isDir_get (s := ⟨L2, s.last⟩) hj2, dirN_some (s := ⟨L2, s.last⟩) hj2, ← g]
      exact ⟨by simpa using d3, rfl⟩
    · rw [if_neg g, q1] at hj2
      rw [isDir_get (s := ⟨L2, s.last⟩) hj2, dirN_some (s := ⟨L2, s.last⟩) hj2, dirN_some q1]
      exact ⟨by simpa using q2, rfl⟩
  have same2 : ∀ j, isDir ⟨L2, s.last⟩ j = true → isDir s j = true ∧ (dirN s j).up = (dirN ⟨L2, s.last⟩ j).up := fun j hj => by
    have : isDir s j = true := by
      obtain ⟨y, q1, q2⟩ := isDir_iff.1 hj
      have hj2 := hget2 j
      by_cases g : e.dir = j
      · rw [← g]; exact h1
      · rw [if_neg g] at hj2
        exact isDir_iff.2 ⟨y, by rw [← hj2]; exact q1, q2⟩
    exact ⟨this, (same1 j this).2.symm⟩
  obtain ⟨kn, kn1, kn2, kn3⟩ := ht.ex _ d1 x x1
  have hkn : kn = dirN s e.ino := inos_inj hg.inos kn1 n3 (kn2.trans (x3.trans n2.symm))
  subst hkn
  have hindir : e.ino ≠ e.dir := fun q => by
    rw [q] at kn3
    obtain ⟨u1, u2⟩ := kn3 d3
    rw [d2] at u1 u2
    have ha := ht.anc _ d1 d3
    rw [d2] at ha
    generalize hi : e.dir = i at ha u1 u2
    cases ha with
    | refl => exact u2 rfl
    | up _ r2 _ => exact r2 u1
  have hgi : getL L2 e.ino = some (dirN s e.ino) := by
    rw [hget2, if_neg (fun q => hindir q.symm)]
    have := getL_mem hg.inos n3
    rw [n2] at this; exact this
  have hni : dirN s e.ino ∈ L2 := (getL_some hgi).1
  -- the node that it goes to
  obtain ⟨T, hT, hTk, hTn, hTi⟩ : ∃ T, getL L2 e.to = some T ∧ T.kind = 2 ∧ (∀ y ∈ T.names, y.name ≠ e.other) ∧ T.ino = e.to := by
    by_cases g : e.dir = e.to
    · refine ⟨{ dirN s e.dir with names := (dropE (dirN s e.dir).names e.name).1 }, by rw [hget2, if_pos g], d3, fun y hy q => ?_, by rw [← g]; exact d2⟩
      have hy2 := List.mem_filter.1 hy
      obtain ⟨-, q3⟩ := h7 y (by rw [← g]; exact hy2.1) q
      have := hy2.2
      simp only [Bool.not_eq_true', decide_eq_false_iff_not] at this
      exact this (q.trans q3.symm)
    · refine ⟨dirN s e.to, ?_, t3, fun y hy q => g (h7 y hy q).1, t2⟩
      rw [hget2, if_neg g]
      have := getL_mem hg.inos t1
      rw [t2] at this; exact this
  have hTm := (getL_some hT).1
  rw [dirN_some (s := ⟨L2, s.last⟩) hT]
  have hput : (putE T.names e.other e.ino).1 = insE T.names e.other e.ino := by
    unfold putE
    have : ¬ hasE T.names e.other = true := fun q => by
      unfold hasE at q
      obtain ⟨y, hy, hy2⟩ := List.any_eq_true.1 q
      exact hTn y hy (by simpa using hy2)
    rw [if_neg this]
  rw [hput]
  rcases ht.kd _ n3 with hk | hk
  · rw [if_neg (by omega)]
    have c2 := c1.put hI2 hTm hTk hc hTn (j := e.ino) ⟨dirN s e.ino, hni, n2, fun q => by omega⟩
    refine c2.congr (fun n hn => ?_)
    show (0 : Int) + (if e.ino = n.ino then 1 else 0) - (if e.ino = n.ino then 1 else 0) = 0
    omega
  · rw [if_pos hk]
    obtain ⟨u1, u2⟩ := kn3 hk
    rw [n2] at u2
    have hwn : ¬ Wi s e.ino e.to := fun q => h6 ⟨hk, withinS_iff.2 q⟩
    have hto : e.to ≠ e.ino := fun q => hwn (by rw [q]; exact .refl)
    have hct := c1.ct _ hni
    rw [if_pos hk, n2, if_neg u2] at hct
    have hct' : timesL L2 e.ino + (0 + if e.ino = e.ino then 1 else 0) = 1 := hct
    rw [if_pos rfl] at hct'
    have hw1 : Wi ⟨L2, s.last⟩ 1 e.to := by
      have := ht.anc _ t1 t3
      rw [t2] at this
      exact this.same same1
    have c2 := c1.move hI2 hni hk (by rw [n2]; exact u2) (by rw [n2]; show timesL L2 e.ino = 0; omega) hw1 (by rw [n2]; exact fun q => hwn (q.same same2))
    have hI3 : Inos (setL L2 { dirN s e.ino with up := e.to }) := inos_setL hI2 _
    have hTm3 : T ∈ setL L2 { dirN s e.ino with up := e.to } := mem_setL.2 (.inr ⟨hTm, by show T.ino ≠ (dirN s e.ino).ino; rw [hTi, n2]; exact hto⟩)
    have c3 := c2.put hI3 hTm3 hTk hc hTn (j := e.ino) ⟨{ dirN s e.ino with up := e.to }, mem_setL.2 (.inl rfl), n2, fun _ => ⟨hTi.symm, by show (dirN s e.ino).ino ≠ 1; rw [n2]; exact u2⟩⟩
    have hgi3 : getL (setL L2 { T with names := insE T.names e.other e.ino }) e.ino = some (dirN s e.ino) := by
      rw [getL_set hI2, if_neg (by show ¬ T.ino = e.ino; rw [hTi]; exact hto), hgi]
    rw [dirN_some (s := ⟨setL L2 { T with names := insE T.names e.other e.ino }, s.last⟩) hgi3]
    rw [set_comm (a := { T with names := insE T.names e.other e.ino }) (b := { dirN s e.ino with up := e.to }) (by show (getL L2 T.ino).isSome = true; rw [hTi, hT]; rfl) (by show (getL L2 (dirN s e.ino).ino).isSome = true; rw [n2, hgi]; rfl) (by show T.ino ≠ (dirN s e.ino).ino; rw [hTi, n2]; exact hto)]
    refine c3.congr (fun n hn => ?_)
    show (0 : Int) + (if e.ino = n.ino then 1 else 0) - (if e.ino = n.ino then 1 else 0) = 0
    omega
theorem find_drop {nm other : ByteArray} (hne : nm ≠ other) : ∀ (l : List Entry), findN (dropE l other).1 nm = findN l nm
  | [] => rfl
  | x :: l => by
    have ih := find_drop hne l
    rw [drop_cons]
    unfold findN at ih ⊢
    by_cases g : x.name = other
    · rw [if_pos g, List.find?_cons, show decide (x.name = nm) = false from decide_eq_false (fun q => hne (q.symm.trans g))]
      exact ih
    · rw [if_neg g, List.find?_cons, List.find?_cons]
      cases decide (x.name = nm)
      · exact ih
      · rfl
theorem find_no {l : List Entry} {nm : ByteArray} (h : (findN l nm).2 = false) : ∀ x ∈ l, x.name ≠ nm := fun x hx e => by
  unfold findN at h
  cases hf : l.find? (fun x => decide (x.name = nm)) with
  | none => have := List.find?_eq_none.1 hf x hx; simp [e] at this
  | some y => rw [hf] at h; cases h
theorem find_one {l : List Entry} (h : Srt l) {nm : ByteArray} {x : Entry} (hx : x ∈ l) (hn : x.name = nm) : findN l nm = (x.ino, true) := by
  cases hf : (findN l nm).2 with
  | false => exact absurd hn (find_no hf x hx)
  | true =>
    obtain ⟨y, y1, y2, y3⟩ := find_mem hf
    have := srt_apart h hx y1 (hn.trans y2.symm)
    subst this
    exact Prod.ext y3.symm hf
theorem tree_rename {k : Nat} {s t : St} (hg : Good k s) (hk : k ≤ 2 ^ 19) (ht : Tr (fun _ => 0) s) {e : Effect} (hc : nameC e.other = 0) (h : renameS s e = some t) : Tr (fun _ => 0) t := by
  have hf := hg.fine hk
  obtain ⟨s1, rfl, g1, g2, g3, g4, g5, g6, g7, g8, g9, g10⟩ := rename_mid hf h
  rcases g7 with ⟨q, rfl⟩ | ⟨og, q1, q2, q3, q4, rfl⟩
  · exact tree_moveS hg ht hc g1 g2 g3 g4 g5 g6 (fun x hx e => absurd e (find_no q x hx))
  · have ht1 := tree_off hg ht q4
    have hog := (mayS_dir q4).2
    have hg1 : Good (k + 1) (offS s e.to e.other og) := good_offS hg g2 hog
    obtain ⟨d1, d2, d3⟩ := dirN_mem hg g1
    obtain ⟨t1, t2, t3⟩ := dirN_mem hg g2
    obtain ⟨x, x1, x2, x3⟩ := find_mem g4
    obtain ⟨y, y1, y2, y3⟩ := find_mem q1
    have hm := q4
    unfold mayS at hm
    simp only [Bool.and_eq_true, Bool.or_eq_true, decide_eq_true_eq] at hm
    obtain ⟨⟨⟨-, -⟩, m1⟩, m2⟩ := hm
    have hdog : e.dir ≠ og := fun q => by
      rcases m2 with r | ⟨r, -⟩
      · rw [← q, d3] at m1; omega
      · rw [← q] at r
        rw [List.length_eq_zero_iff.1 r] at x1; cases x1
    have htog : e.to ≠ og := fun q => by
      rcases m2 with r | ⟨r, -⟩
      · rw [← q, t3] at m1; omega
      · rw [← q] at r
        rw [List.length_eq_zero_iff.1 r] at y1; cases y1
    have hgd := getL_off hf (nm := e.other) g2 hog hdog
    have hgt := getL_off hf (nm := e.other) g2 hog htog
    have hgi := getL_off hf (nm := e.other) g2 hog (fun q => q3 q.symm)
    rw [if_pos rfl] at hgt
    have hdt := dirN_some (s := offS s e.to e.other og) hgt
    have hfind : findN (dirN (offS s e.to e.other og) e.dir).names e.name = findN (dirN s e.dir).names e.name := by
      by_cases g : e.to = e.dir
      · rw [if_pos g] at hgd
        rw [dirN_some (s := offS s e.to e.other og) hgd, g]
        refine find_drop (fun hne => ?_) _
        have : x = y := srt_apart (ht.srt _ d1) x1 (by rw [← g]; exact y1) (by rw [x2, y2, hne])
        rw [← this, x3, g5] at y3
        exact q3 (q2.trans y3.symm)
      · rw [if_neg g] at hgd
        obtain ⟨z, z1, -⟩ := isDir_iff.1 g1
        rw [z1] at hgd
        rw [dirN_some (s := offS s e.to e.other og) hgd, dirN_some z1]
    have hkind : (dirN (offS s e.to e.other og) e.ino).kind = (dirN s e.ino).kind := by
      by_cases g : e.to = e.ino
      · rw [if_pos g] at hgi
        rw [dirN_some (s := offS s e.to e.other og) hgi, ← g]
      · rw [if_neg g] at hgi
        obtain ⟨z, z1⟩ := Option.isSome_iff_exists.1 g3
        rw [z1] at hgi
        rw [dirN_some (s := offS s e.to e.other og) hgi, dirN_some z1]
    have hIo : Inos (offL s e.to e.other) := inos_setL hg.inos _
    have same : ∀ j, isDir (offS s e.to e.other og) j = true → isDir s j = true ∧ (dirN s j).up = (dirN (offS s e.to e.other og) j).up := fun j hj => by
      obtain ⟨z, z1, z2⟩ := isDir_iff.1 hj
      by_cases g : j = og
      · -- a directory that went is none; a file is none
        subst g
        rcases m2 with r | ⟨r, -⟩
        · exfalso
          unfold offS at z1
          rw [getL_offL hf _ _ g2, if_neg htog] at z1
          obtain ⟨w, w1⟩ := Option.isSome_iff_exists.1 hog
          rw [w1, Option.getD_some] at z1
          have hwk : w.kind = 1 := by have := m1; rw [dirN_some w1] at this; omega
          rw [if_neg (by omega)] at z1
          have z1' : getL (setL (offL s e.to e.other) { w with links := w.links - 1 }) j = some z := z1
          rw [getL_set hIo, if_pos (getL_some w1).2] at z1'
          have := Option.some.inj z1'
          rw [← this] at z2
          have z2' : w.kind = 2 := z2
          omega
        · exfalso
          unfold offS at z1
          rw [getL_offL hf _ _ g2, if_neg htog] at z1
          obtain ⟨w, w1⟩ := Option.isSome_iff_exists.1 hog
          rw [w1, Option.getD_some] at z1
          rcases ht.kd _ (getL_some w1).1 with r1 | r1
          · rw [if_neg (by omega)] at z1
            have z1' : getL (setL (offL s e.to e.other) { w with links := w.links - 1 }) j = some z := z1
            rw [getL_set hIo, if_pos (getL_some w1).2] at z1'
            have := Option.some.inj z1'
            rw [← this] at z2
            have z2' : w.kind = 2 := z2
            omega
          · rw [if_pos r1] at z1
            have := (mem_delL.1 (getL_some z1).1).2
            exact this (getL_some z1).2
      · have hgj := getL_off hf (nm := e.other) g2 hog g
        by_cases gt : e.to = j
        · rw [if_pos gt] at hgj
          rw [dirN_some (s := offS s e.to e.other og) hgj, ← gt]
          exact ⟨g2, rfl⟩
        · rw [if_neg gt] at hgj
          rw [z1] at hgj
          rw [dirN_some z1, dirN_some hgj.symm]
          exact ⟨isDir_iff.2 ⟨z, hgj.symm, z2⟩, rfl⟩
    have := tree_moveS (e := e) hg1 ht1 hc g8 g9 g10 (by rw [hfind]; exact g4) (by rw [hfind]; exact g5) (fun q => g6 ⟨by rw [← hkind]; exact q.1, withinS_iff.2 ((withinS_iff.1 q.2).same same)⟩) (fun z hz hz2 => by
      rw [hdt] at hz
      have := (List.mem_filter.1 hz).2
      simp only [Bool.not_eq_true', decide_eq_false_iff_not] at this
      exact absurd hz2 this)
    rw [hkind] at this
    exact this
/-- Behind any effect names tell links still. -/
theorem tree_does {k : Nat} {s t : St} (hg : Good k s) (hk : k ≤ 2 ^ 19) (ht : Tr (fun _ => 0) s) {e : Effect} (he : effB e = true) {ref : Int} {gone : List Int} (hd : doesS s e ref = some (t, gone)) : Tr (fun _ => 0) t := by
  obtain ⟨e1, e2, e3, e4, e5, e6, e7, e8, e9⟩ := effB_place he
  unfold doesS at hd
  split at hd
  · rename_i kd
    obtain ⟨t', h, q⟩ := Option.map_eq_some_iff.1 hd
    simp only [Prod.mk.injEq] at q
    obtain ⟨rfl, -⟩ := q
    exact tree_make hg ht (e1 (.inl kd)).1 (e3 kd) h
  split at hd
  · rename_i kd
    obtain ⟨t', h, q⟩ := Option.map_eq_some_iff.1 hd
    simp only [Prod.mk.injEq] at q
    obtain ⟨rfl, -⟩ := q
    exact tree_link hg ht (e1 (.inr (.inl kd))).1 h
  split at hd
  · obtain ⟨t', h, q⟩ := Option.map_eq_some_iff.1 hd
    simp only [Prod.mk.injEq] at q
    obtain ⟨rfl, -⟩ := q
    unfold removeS at h
    by_cases g : mayS s e.dir e.name e.ino (if e.kind = 4 then 2 else 1) = true
    · rw [if_pos g] at h
      simp only [Option.some.injEq] at h
      subst h
      exact tree_off hg ht g
    · rw [if_neg g] at h; cases h
  split at hd
  · rename_i kd
    obtain ⟨t', h, q⟩ := Option.map_eq_some_iff.1 hd
    simp only [Prod.mk.injEq] at q
    obtain ⟨rfl, -⟩ := q
    exact tree_rename hg hk ht (e2 kd) h
  split at hd
  · exact tree_pages (ref := ref) hg ht (.inl hd)
  split at hd
  · exact tree_pages hg ht (.inr hd)
  · exact tree_drop hg ht hd
theorem tree_st0 : Tr (fun _ => 0) st0 := by
  have h1 : ∀ n ∈ st0.L, n = ⟨1, 2, 1, 0, 1, [], []⟩ := by simp [st0]
  refine ⟨fun n hn => ?_, fun n hn => ?_, fun n hn => ?_, fun n hn => ?_, fun n hn => ?_, fun n hn => ?_, by decide, by decide, fun n hn _ => ?_, fun n hn _ => ?_⟩
  all_goals rw [h1 n hn]
  · exact List.Pairwise.nil
  · intro x hx; cases hx
  · exact .inr rfl
  · intro q; exact absurd q (by decide)
  · intro x hx; cases hx
  · simp [timesL, sumF, st0, cntE]
  · exact .refl
  · exact ⟨rfl, rfl⟩
theorem tree_apply {k : Nat} {s : St} (hg : Good k s) (hk : k ≤ 2 ^ 19) (ht : Tr (fun _ => 0) s) (e : Effect) (ref : Int) : Tr (fun _ => 0) (applyS s e ref).1 := by
  unfold applyS
  split
  · rename_i he
    cases hd : doesS s e ref with
    | none => exact ht
    | some R => exact tree_does hg hk ht he hd
  · exact ht
end Go.Proofs.YtdfjfagljngciaaGreat

set_option linter.all false
set_option maxRecDepth 100000
set_option maxHeartbeats 4000000
namespace Go.Proofs.YtdfjfagljngciaaGreat
open Go.RowKit Rx Go.MapKept

theorem set_self {L : List Node} (hI : Inos L) {n : Node} (hn : n ∈ L) : setL L n = L := by
  rw [setL_len (by rw [getL_mem hI hn]; rfl)]
  conv => rhs; rw [← List.map_id L]
  apply List.map_congr_left
  intro x hx
  split
  · rename_i g; exact (inos_inj hI hx hn g).symm
  · rfl
theorem set_set {L : List Node} {a b : Node} (ha : (getL L a.ino).isSome = true) (he : a.ino = b.ino) : setL (setL L a) b = setL L b := by
  rw [setL_len (by rw [← he]; exact getL_setL ha), setL_len ha, setL_len (by rw [← he]; exact ha), List.map_map]
  apply List.map_congr_left
  intro x _
  simp only [Function.comp]
  by_cases g : x.ino = a.ino
  · rw [if_pos g, if_pos he, if_pos (g.trans he)]
  · rw [if_neg g]
/-- A link that is taken away again. -/
theorem back_link {k : Nat} {s t : St} (hg : Good k s) (ht : Tr (fun _ => 0) s) {a b : Effect} (hb : b.dir = a.dir ∧ b.name = a.name ∧ b.ino = a.ino ∧ b.kind = 3) (h : linkS s a = some t) : removeS t b = some s := by
  obtain ⟨b1, b2, b3, b4⟩ := hb
  unfold linkS at h
  simp only at h
  split at h
  · rename_i g
    obtain ⟨g1, g2, g3, g4, g5⟩ := g
    simp only [Option.some.injEq] at h
    subst h
    obtain ⟨d1, d2, d3⟩ := dirN_mem hg g1
    obtain ⟨f1, f2, f3⟩ := fileN_mem hg g2
    obtain ⟨p1, p2⟩ := put_new g3
    rw [p1]
    have hne : a.dir ≠ a.ino := fun q => by rw [q, f3] at d3; omega
    have hgd : getL s.L a.dir = some (dirN s a.dir) := by have := getL_mem hg.inos d1; rw [d2] at this; exact this
    have hgf : getL s.L a.ino = some (dirN s a.ino) := by have := getL_mem hg.inos f1; rw [f2] at this; exact this
    generalize hD : ({ dirN s a.dir with names := insE (dirN s a.dir).names a.name a.ino } : Node) = D
    generalize hF : ({ dirN s a.ino with links := (dirN s a.ino).links + 1 } : Node) = F
    have hDi : D.ino = a.dir := by rw [← hD]; exact d2
    have hFi : F.ino = a.ino := by rw [← hF]; exact f2
    have hI1 : Inos (setL s.L D) := inos_setL hg.inos D
    have hI2 : Inos (setL (setL s.L D) F) := inos_setL hI1 F
    have hget : ∀ j, getL (setL (setL s.L D) F) j = if a.ino = j then some F else if a.dir = j then some D else getL s.L j := fun j => by
      rw [getL_set hI1, getL_set hg.inos, hFi, hDi]
    have gD : getL (setL (setL s.L D) F) a.dir = some D := by rw [hget, if_neg (fun q => hne q.symm), if_pos rfl]
    have gF : getL (setL (setL s.L D) F) a.ino = some F := by rw [hget, if_pos rfl]
    have hdD := dirN_some (s := ⟨setL (setL s.L D) F, s.last⟩) gD
    have hdF := dirN_some (s := ⟨setL (setL s.L D) F, s.last⟩) gF
    have hfind : findN D.names a.name = (a.ino, true) := by
      rw [← hD]
      exact find_one (srt_ins (ht.srt _ d1) p2) (mem_insE.2 (.inl rfl)) rfl
    have hmay : mayS ⟨setL (setL s.L D) F, s.last⟩ a.dir a.name a.ino 1 = true := by
      unfold mayS
      rw [isDir_get gD, hdD, hdF, hfind, gF]
      have e1 : D.kind = 2 := by rw [← hD]; exact d3
      have e2 : F.kind = 1 := by rw [← hF]; exact f3
      simp [e1, e2]
    unfold removeS
    rw [b1, b2, b3, b4, if_neg (by decide : ¬ (3 : Int) = 4), if_pos hmay]
    congr 1
    have hoffL : offL ⟨setL (setL s.L D) F, s.last⟩ a.dir a.name = setL s.L F := by
      unfold offL
      rw [hdD]
      have hback : ({ D with names := (dropE D.names a.name).1 } : Node) = dirN s a.dir := by
        rw [← hD]
        show ({ dirN s a.dir with names := (dropE (insE (dirN s a.dir).names a.name a.ino) a.name).1 } : Node) = _
        rw [drop_ins p2]
      rw [hback]
      show setL (setL (setL s.L D) F) (dirN s a.dir) = _
      rw [set_comm (a := D) (b := F) (by rw [hDi, hgd]; rfl) (by rw [hFi, hgf]; rfl) (by rw [hDi, hFi]; exact hne)]
      rw [set_set (a := D) (b := dirN s a.dir) (by rw [hDi, getL_set hg.inos, hFi, if_neg (fun q => hne q.symm), hgd]; rfl) (hDi.trans d2.symm)]
      rw [← set_comm (a := dirN s a.dir) (b := F) (by rw [d2, hgd]; rfl) (by rw [hFi, hgf]; rfl) (by rw [d2, hFi]; exact hne), set_self hg.inos d1]
    unfold offS
    rw [hoffL]
    have gF2 : getL (setL s.L F) a.ino = some F := by rw [getL_set hg.inos, if_pos hFi]
    rw [gF2, Option.getD_some, if_neg (by rw [← hF]; show ¬ (dirN s a.ino).kind = 2; omega)]
    have hFb : ({ F with links := F.links - 1 } : Node) = dirN s a.ino := by
      rw [← hF]
      show ({ dirN s a.ino with links := (dirN s a.ino).links + 1 - 1 } : Node) = _
      rw [show (dirN s a.ino).links + 1 - 1 = (dirN s a.ino).links from by omega]
    rw [hFb, set_set (a := F) (b := dirN s a.ino) (by rw [hFi, hgf]; rfl) (hFi.trans f2.symm), set_self hg.inos f1]
  · cases h
theorem Wi.trans {s : St} {i d x : Int} (h1 : Wi s i x) (h2 : Wi s d i) : Wi s d x := by
  induction h1 with
  | refl => exact h2
  | up q1 q2 _ ih => exact .up q1 q2 ih
/-- A directory is not within what is in it. -/
theorem no_cycle {P : Int → Int} {s : St} (ht : Tr P s) {d : Int} (hd : Wi s 1 d) : ∀ i, i ≠ 1 → Wi s i d → isDir s i = true → (dirN s i).up ≠ i → (dirN s i).up = d → False := by
  induction hd with
  | refl =>
    intro i h1 hw _ _ _
    have hr := ht.rup
    generalize hx : (1 : Int) = x at hw hr h1
    cases hw with
    | refl => exact h1 rfl
    | up _ q2 _ => exact q2 hr
  | @up d q1 q2 _ ih =>
    intro i h1 hw hi hu hd
    have hd1 : d ≠ 1 := fun e => q2 (by rw [e]; exact ht.rup)
    have hdi : Wi s d i := .up hi hu (by rw [hd]; exact .refl)
    generalize hx : d = x at hw
    cases hw with
    | refl => exact hu (hd.trans hx)
    | up _ _ r3 =>
      rw [← hx] at r3
      exact ih d hd1 (r3.trans hdi) q1 q2 rfl
/-- Nodes by number tell all. -/
theorem list_same {L L' : List Node} (hI : Inos L) (h1 : L'.map (·.ino) = L.map (·.ino)) (h2 : ∀ j, getL L' j = getL L j) : L' = L := by
  have hI' : Inos L' := by unfold Inos; rw [h1]; exact hI
  apply List.ext_getElem?
  intro i
  have h3 := congrArg (fun l => l[i]?) h1
  simp only [List.getElem?_map] at h3
  cases hx : L'[i]? with
  | none =>
    rw [hx] at h3
    cases hy : L[i]? with
    | none => rfl
    | some y => rw [hy] at h3; cases h3
  | some x =>
    rw [hx] at h3
    cases hy : L[i]? with
    | none => rw [hy] at h3; cases h3
    | some y =>
      rw [hy] at h3
      have he : x.ino = y.ino := by simpa using h3
      have e1 := getL_mem hI' (List.mem_of_getElem? hx)
      have e2 := getL_mem hI (List.mem_of_getElem? hy)
      rw [h2, he, e2] at e1
      exact e1.symm
theorem inos_keep {L : List Node} {n : Node} (h : (getL L n.ino).isSome = true) : (setL L n).map (·.ino) = L.map (·.ino) := by
  rw [setL_len h, map_inos]
/-- What a move comes to, node by node. -/
theorem move_get {k : Nat} {s : St} (hg : Good k s) {e : Effect} {kind : Int} (h1 : isDir s e.dir = true) (h2 : isDir s e.to = true) (h3 : (getL s.L e.ino).isSome = true) (hid : e.ino ≠ e.dir) (hit : e.ino ≠ e.to) {T : Node}
    (hT : T = if e.dir = e.to then { dirN s e.dir with names := (dropE (dirN s e.dir).names e.name).1 } else dirN s e.to) :
    (moveS s e kind).L.map (·.ino) = s.L.map (·.ino) ∧ (moveS s e kind).last = s.last ∧ ∀ j, getL (moveS s e kind).L j = if e.ino = j then some (if kind = 2 then { dirN s e.ino with up := e.to } else dirN s e.ino) else if e.to = j then some { T with names := (putE T.names e.other e.ino).1 }
      else if e.dir = j then some { dirN s e.dir with names := (dropE (dirN s e.dir).names e.name).1 } else getL s.L j := by
  obtain ⟨d1, d2, d3⟩ := dirN_mem hg h1
  obtain ⟨t1, t2, t3⟩ := dirN_mem hg h2
  obtain ⟨-, n2, n3⟩ := hg.node h3
  have hgd : getL s.L e.dir = some (dirN s e.dir) := by have := getL_mem hg.inos d1; rw [d2] at this; exact this
  have hgt : getL s.L e.to = some (dirN s e.to) := by have := getL_mem hg.inos t1; rw [t2] at this; exact this
  have hgi : getL s.L e.ino = some (dirN s e.ino) := by have := getL_mem hg.inos n3; rw [n2] at this; exact this
  unfold moveS
  simp only
  generalize hD : ({ dirN s e.dir with names := (dropE (dirN s e.dir).names e.name).1 } : Node) = D at hT ⊢
  have hDi : D.ino = e.dir := by rw [← hD]; exact d2
  have g2 : ∀ j, getL (setL s.L D) j = if e.dir = j then some D else getL s.L j := fun j => by rw [getL_set hg.inos, hDi]
  have m2 : (setL s.L D).map (·.ino) = s.L.map (·.ino) := inos_keep (by rw [hDi, hgd]; rfl)
  have hI2 := inos_setL hg.inos D
  generalize setL s.L D = L2 at g2 m2 hI2 ⊢
  have hTt : dirN ⟨L2, s.last⟩ e.to = T := by
    by_cases g : e.dir = e.to
    · rw [hT, if_pos g, dirN_some (s := ⟨L2, s.last⟩) (n := D) (by rw [g2, if_pos g])]
    · rw [hT, if_neg g, dirN_some (s := ⟨L2, s.last⟩) (n := dirN s e.to) (by rw [g2, if_neg g]; exact hgt)]
  have hTi : T.ino = e.to := by
    rw [hT]; split
    · rename_i g; rw [hDi]; exact g
    · exact t2
  rw [hTt]
  generalize hV : ({ T with names := (putE T.names e.other e.ino).1 } : Node) = V
  have hVi : V.ino = e.to := by rw [← hV]; exact hTi
  have hgt2 : (getL L2 e.to).isSome = true := by rw [g2]; split; rfl; rw [hgt]; rfl
  have g3 : ∀ j, getL (setL L2 V) j = if e.to = j then some V else getL L2 j := fun j => by rw [getL_set hI2, hVi]
  have m3 : (setL L2 V).map (·.ino) = s.L.map (·.ino) := (inos_keep (by rw [hVi]; exact hgt2)).trans m2
  have hI3 := inos_setL hI2 V
  generalize setL L2 V = L3 at g3 m3 hI3 ⊢
  have hg3 : getL L3 e.ino = some (dirN s e.ino) := by rw [g3, if_neg (fun q => hit q.symm), g2, if_neg (fun q => hid q.symm)]; exact hgi
  by_cases hk : kind = 2
  · rw [if_pos hk]
    rw [dirN_some (s := ⟨L3, s.last⟩) hg3]
    refine ⟨(inos_keep (by show (getL L3 (dirN s e.ino).ino).isSome = true; rw [n2, hg3]; rfl)).trans m3, rfl, fun j => ?_⟩
    show getL (setL L3 { dirN s e.ino with up := e.to }) j = _
    rw [getL_set hI3]
    show (if (dirN s e.ino).ino = j then _ else _) = _
    by_cases g : e.ino = j
    · rw [if_pos (n2.trans g), if_pos g, if_pos hk]
    · rw [if_neg (fun q => g (n2.symm.trans q)), if_neg g, g3, g2]
  · rw [if_neg hk, if_neg hk]
    refine ⟨m3, rfl, fun j => ?_⟩
    show getL L3 j = _
    by_cases g : e.ino = j
    · rw [if_pos g, ← g]; exact hg3
    · rw [if_neg g, g3, g2]
theorem find_none {l : List Entry} {nm : ByteArray} (h : ∀ x ∈ l, x.name ≠ nm) : (findN l nm).2 = false := by
  cases hf : (findN l nm).2 with
  | false => rfl
  | true => obtain ⟨x, x1, x2, -⟩ := find_mem hf; exact absurd x2 (h x x1)
theorem put_ins {l : List Entry} {nm : ByteArray} {ino : Int} (h : ∀ x ∈ l, x.name ≠ nm) : (putE l nm ino).1 = insE l nm ino := by
  unfold putE
  have : ¬ hasE l nm = true := fun q => by
    unfold hasE at q
    obtain ⟨y, hy, hy2⟩ := List.any_eq_true.1 q
    exact h y hy (by simpa using hy2)
  rw [if_neg this]
theorem drop_no {l : List Entry} {nm : ByteArray} : ∀ x ∈ (dropE l nm).1, x.name ≠ nm := fun x hx => by
  have := (List.mem_filter.1 hx).2
  simpa using this
/-- A name that comes back to its place. -/
theorem back_rename {k : Nat} {s t : St} (hg : Good k s) (hk : k ≤ 2 ^ 18) (ht : Tr (fun _ => 0) s) {a b : Effect} (hc : nameC a.other = 0) (ha1 : 1 ≤ a.ino) (hb : b.dir = a.to ∧ b.name = a.other ∧ b.to = a.dir ∧ b.other = a.name ∧ b.ino = a.ino) (hno : (findN (dirN s a.to).names a.other).2 = false) (h : renameS s a = some t) : renameS t b = some s := by
  obtain ⟨b1, b2, b3, b4, b5⟩ := hb
  have hf := hg.fine (by omega)
  have htt := tree_rename hg (by omega) ht hc h
  obtain ⟨s1, hst, g1, g2, g3, g4, g5, g6, g7, -⟩ := rename_mid hf h
  rcases g7 with ⟨-, hs1⟩ | ⟨og, q1, -⟩
  rotate_left
  · rw [hno] at q1; cases q1
  rw [hs1] at hst
  clear hs1 s1
  have hgt := good_move hg (e := a) (kind := (dirN s a.ino).kind) g1 g2 g3 hc ha1
  obtain ⟨d1, d2, d3⟩ := dirN_mem hg g1
  obtain ⟨t1, t2, t3⟩ := dirN_mem hg g2
  obtain ⟨-, n2, n3⟩ := hg.node g3
  obtain ⟨x, x1, x2, x3⟩ := find_mem g4
  rw [g5] at x3
  have hxe : x = ⟨a.name, a.ino⟩ := by cases x; simp only at x2 x3; rw [x2, x3]
  have hno' := find_no hno
  obtain ⟨kn, kn1, kn2, kn3⟩ := ht.ex _ d1 x x1
  have hkn : kn = dirN s a.ino := inos_inj hg.inos kn1 n3 (kn2.trans (x3.trans n2.symm))
  subst hkn
  have hid : a.ino ≠ a.dir := fun q => by
    rw [q] at kn3
    obtain ⟨u1, u2⟩ := kn3 d3
    rw [d2] at u1 u2
    have haa := ht.anc _ d1 d3
    rw [d2] at haa
    generalize hi : a.dir = i at haa u1 u2
    cases haa with
    | refl => exact u2 rfl
    | up _ r2 _ => exact r2 u1
  have hit : a.ino ≠ a.to := fun q => by
    rw [← q] at t3
    exact g6 ⟨t3, withinS_iff.2 (by rw [← q]; exact .refl)⟩
  obtain ⟨T, hT⟩ : ∃ T, T = if a.dir = a.to then { dirN s a.dir with names := (dropE (dirN s a.dir).names a.name).1 } else dirN s a.to := ⟨_, rfl⟩
  have hTf : T.kind = 2 ∧ T.ino = a.to ∧ Srt T.names ∧ (∀ y ∈ T.names, y.name ≠ a.other) ∧ T.up = (dirN s a.to).up := by
    by_cases g : a.dir = a.to
    · rw [if_pos g] at hT
      rw [hT]
      exact ⟨d3, d2.trans g, srt_drop (ht.srt _ d1) _, fun y hy => hno' y (by rw [← g]; exact (List.mem_filter.1 hy).1), by rw [← g]⟩
    · rw [if_neg g] at hT
      rw [hT]
      exact ⟨t3, t2, ht.srt _ t1, hno', rfl⟩
  obtain ⟨T1, T2, T3, T4, T5⟩ := hTf
  obtain ⟨m1, m2, m3⟩ := move_get hg (e := a) (kind := (dirN s a.ino).kind) g1 g2 g3 hid hit hT
  rw [put_ins T4] at m3
  generalize hV : ({ T with names := insE T.names a.other a.ino } : Node) = V at m3
  generalize hD : ({ dirN s a.dir with names := (dropE (dirN s a.dir).names a.name).1 } : Node) = D at m3 hT
  generalize hN : (if (dirN s a.ino).kind = 2 then { dirN s a.ino with up := a.to } else dirN s a.ino : Node) = N at m3
  have hNk : N.kind = (dirN s a.ino).kind := by rw [← hN]; split <;> rfl
  have hNi : N.ino = a.ino := by rw [← hN]; split <;> exact n2
  rw [← hst] at m1 m2 m3 hgt
  have tV : getL t.L a.to = some V := by rw [m3, if_neg hit, if_pos rfl]
  have tN : getL t.L a.ino = some N := by rw [m3, if_pos rfl]
  have tD : getL t.L a.dir = some (if a.to = a.dir then V else D) := by rw [m3, if_neg hid]; split <;> simp_all
  have Vk : V.kind = 2 := by rw [← hV]; exact T1
  have Vn : V.names = insE T.names a.other a.ino := by rw [← hV]
  have Dk : (if a.to = a.dir then V else D).kind = 2 := by split; exact Vk; rw [← hD]; exact d3
  have hdV := dirN_some tV
  have hdN := dirN_some tN
  have hdD := dirN_some tD
  have hfV : findN V.names a.other = (a.ino, true) := by rw [Vn]; exact find_one (srt_ins T3 T4) (mem_insE.2 (.inl rfl)) rfl
  have hnD : ∀ y ∈ (if a.to = a.dir then V else D).names, y.name ≠ a.name := by
    by_cases g : a.to = a.dir
    · rw [if_pos g, Vn]
      intro y hy
      rw [if_pos g.symm] at hT
      rcases mem_insE.1 hy with rfl | q
      · intro e
        exact hno' x (by rw [g]; exact x1) (x2.trans e.symm)
      · rw [hT, ← hD] at q; exact drop_no y q
    · rw [if_neg g, ← hD]; exact drop_no
  have hcyc : ¬ (N.kind = 2 ∧ withinS t a.dir a.ino = true) := by
    rintro ⟨c1, c2⟩
    rw [hNk] at c1
    obtain ⟨u1, u2⟩ := kn3 c1
    rw [n2] at u2
    rw [d2] at u1
    have hw : ∀ i, Wi t a.ino i → Wi s a.ino i := fun i hi => by
      induction hi with
      | refl => exact .refl
      | @up i r1 r2 _ ih =>
        by_cases gi : a.ino = i
        · rw [← gi]; exact .refl
        · obtain ⟨z, z1, z2⟩ := isDir_iff.1 r1
          have hz := m3 i
          rw [if_neg gi, z1] at hz
          have hup : isDir s i = true ∧ (dirN s i).up = z.up := by
            by_cases e1 : a.to = i
            · rw [if_pos e1] at hz
              have := Option.some.inj hz
              rw [this, ← e1]
              exact ⟨g2, by rw [← hV]; exact T5.symm⟩
            · rw [if_neg e1] at hz
              by_cases e2 : a.dir = i
              · rw [if_pos e2] at hz
                have := Option.some.inj hz
                rw [this, ← e2]
                exact ⟨g1, by rw [← hD]⟩
              · rw [if_neg e2] at hz
                exact ⟨isDir_iff.2 ⟨z, hz.symm, z2⟩, by rw [dirN_some hz.symm]⟩
          rw [dirN_some z1] at r2 ih
          exact .up hup.1 (by rw [hup.2]; exact r2) (by rw [hup.2]; exact ih)
    have hin : isDir s a.ino = true := by
      obtain ⟨w, w1⟩ := Option.isSome_iff_exists.1 g3
      exact isDir_iff.2 ⟨w, w1, by rw [dirN_some w1] at c1; exact c1⟩
    have hwd := ht.anc _ d1 d3
    rw [d2] at hwd
    exact no_cycle ht hwd a.ino u2 (hw _ (withinS_iff.1 c2)) hin (by rw [u1]; exact fun q => hid q.symm) u1
  have tdir : isDir t a.to = true := isDir_iff.2 ⟨V, tV, Vk⟩
  have ddir : isDir t a.dir = true := isDir_iff.2 ⟨_, tD, Dk⟩
  unfold renameS
  simp only
  rw [b1, b2, b3, b4, b5, hdV, hdN, hdD, hfV, tN]
  rw [if_pos ⟨tdir, rfl, rfl, ddir, rfl, hcyc⟩, if_neg (by rw [find_none hnD]; simp)]
  congr 1
  obtain ⟨U, hU⟩ : ∃ U, U = if a.to = a.dir then { V with names := (dropE V.names a.other).1 } else D := ⟨_, rfl⟩
  have hU' : U = if b.dir = b.to then { dirN t b.dir with names := (dropE (dirN t b.dir).names b.name).1 } else dirN t b.to := by
    rw [b1, b2, b3, hdV, hdD, hU]
    by_cases g : a.to = a.dir
    · rw [if_pos g, if_pos g]
    · rw [if_neg g, if_neg g, if_neg g]
  obtain ⟨r1, r2, r3⟩ := move_get hgt (e := b) (kind := N.kind) (by rw [b1]; exact tdir) (by rw [b3]; exact ddir) (by rw [b5, tN]; rfl) (by rw [b5, b1]; exact hit) (by rw [b5, b3]; exact hid) hU'
  rw [b1, b2, b3, b4, b5, hdV, hdN] at r3
  have hVn : (dropE V.names a.other).1 = T.names := by rw [Vn]; exact drop_ins T4
  have hDn : D.names = (dropE (dirN s a.dir).names a.name).1 := by rw [← hD]
  have hUn : U.names = (dropE (dirN s a.dir).names a.name).1 := by
    rw [hU]
    by_cases g : a.to = a.dir
    · rw [if_pos g]; show (dropE V.names a.other).1 = _; rw [hVn, hT, if_pos g.symm, hDn]
    · rw [if_neg g, hDn]
  have hback : ({ U with names := (putE U.names a.name a.ino).1 } : Node) = dirN s a.dir := by
    have hn : (putE U.names a.name a.ino).1 = (dirN s a.dir).names := by
      rw [put_ins (by rw [hUn]; exact drop_no), hUn]
      exact ins_drop (ht.srt _ d1) x1 hxe
    rw [hn, hU]
    by_cases g : a.to = a.dir
    · rw [if_pos g, ← hV, hT, if_pos g.symm, ← hD]
    · rw [if_neg g, ← hD]
  have hNb : (if N.kind = 2 then { N with up := a.dir } else N) = dirN s a.ino := by
    rw [hNk]
    by_cases g : (dirN s a.ino).kind = 2
    · rw [if_pos g] at hN ⊢
      rw [← hN]
      have hu := (kn3 g).1
      rw [d2] at hu
      rw [← hu]
    · rw [if_neg g] at hN ⊢
      exact hN.symm
  have hgd : getL s.L a.dir = some (dirN s a.dir) := by have := getL_mem hg.inos d1; rw [d2] at this; exact this
  have hgto : getL s.L a.to = some (dirN s a.to) := by have := getL_mem hg.inos t1; rw [t2] at this; exact this
  have hgi : getL s.L a.ino = some (dirN s a.ino) := by have := getL_mem hg.inos n3; rw [n2] at this; exact this
  have hlist : (moveS t b N.kind).L = s.L := list_same hg.inos (r1.trans m1) (fun j => by
    rw [r3, hNb, hback]
    by_cases e1 : a.ino = j
    · rw [if_pos e1, ← e1, hgi]
    rw [if_neg e1]
    by_cases e2 : a.dir = j
    · rw [if_pos e2, ← e2, hgd]
    rw [if_neg e2]
    by_cases e3 : a.to = j
    · have g : ¬ a.dir = a.to := fun q => e2 (q.trans e3)
      rw [if_pos e3, ← e3, hgto, hVn, ← hV]
      congr 1
      rw [if_neg g] at hT
      rw [← hT]
    rw [if_neg e3, m3, if_neg e1, if_neg e3, if_neg e2])
  have hlast : (moveS t b N.kind).last = s.last := r2.trans m2
  generalize moveS t b N.kind = q at hlist hlast
  cases q; cases s
  simp only at hlist hlast
  rw [hlist, hlast]
end Go.Proofs.YtdfjfagljngciaaGreat

set_option linter.all false
set_option maxRecDepth 100000
set_option maxHeartbeats 4000000
namespace Go.Proofs.YtdfjfagljngciaaGreat
open Go.RowKit Rx Go.MapKept

/-- All references are apart, and at most m. -/
structure Rfs (m : Int) (s : St) : Prop where
  own : ∀ n ∈ s.L, (refsN n).Nodup ∧ ∀ r ∈ refsN n, 1 ≤ r ∧ r ≤ m
  ap : ∀ a ∈ s.L, ∀ b ∈ s.L, a.ino ≠ b.ino → ∀ r ∈ refsN a, r ∉ refsN b
theorem Rfs.mono {m m' : Int} {s : St} (h : Rfs m s) (hm : m ≤ m') : Rfs m' s :=
  ⟨fun n hn => ⟨(h.own n hn).1, fun r hr => by have := (h.own n hn).2 r hr; omega⟩, h.ap⟩
theorem Rfs.nodup {m : Int} {s : St} (h : Rfs m s) (hI : Inos s.L) : (refsS s).Nodup := by
  unfold refsS
  rw [List.Nodup, List.pairwise_flatMap]
  refine ⟨fun n hn => (h.own n hn).1, ?_⟩
  unfold Inos at hI
  rw [List.Nodup, List.pairwise_map] at hI
  exact hI.imp_of_mem (fun {a b} ha hb hab x hx y hy e => h.ap a ha b hb hab x hx (e ▸ hy))
/-- A node that has no references but its own, and new ones. -/
theorem Rfs.set {m m' : Int} {s : St} (h : Rfs m s) (hm : m ≤ m') {n n' : Node} (hn : n ∈ s.L ∨ refsN n = []) (hi : n ∈ s.L → n'.ino = n.ino) (hd : (refsN n').Nodup) (hs : ∀ r ∈ refsN n', r ∈ refsN n ∨ (m < r ∧ r ≤ m' ∧ 1 ≤ r)) (last : Int) : Rfs m' ⟨setL s.L n', last⟩ := by
  have hmem : ∀ {x : Node}, x ∈ setL s.L n' → x = n' ∨ (x ∈ s.L ∧ x.ino ≠ n'.ino) := fun hx => mem_setL.1 hx
  have hnr : ∀ r ∈ refsN n, n ∈ s.L := fun r hr => hn.resolve_right (fun e => by rw [e] at hr; cases hr)
  refine ⟨fun x hx => ?_, fun a ha b hb hab r hr => ?_⟩
  · rcases hmem hx with rfl | ⟨q, -⟩
    · refine ⟨hd, fun r hr => ?_⟩
      rcases hs r hr with g | g
      · have := (h.own n (hnr r g)).2 r g; omega
      · omega
    · exact ⟨(h.own x q).1, fun r hr => by have := (h.own x q).2 r hr; omega⟩
  · rcases hmem ha with rfl | ⟨qa, qa'⟩
    · rcases hmem hb with rfl | ⟨qb, qb'⟩
      · exact absurd rfl hab
      · intro hrb
        rcases hs r hr with g | g
        · have hnl := hnr r g
          exact h.ap n hnl b qb (fun e => qb' (e.symm.trans (hi hnl).symm)) r g hrb
        · have := (h.own b qb).2 r hrb; omega
    · rcases hmem hb with rfl | ⟨qb, qb'⟩
      · intro hrb
        rcases hs r hrb with g | g
        · have hnl := hnr r g
          exact h.ap a qa n hnl (fun e => qa' (e.trans (hi hnl).symm)) r hr g
        · have := (h.own a qa).2 r hr; omega
      · exact h.ap a qa b qb hab r hr
theorem Rfs.del {m : Int} {s : St} (h : Rfs m s) (i last : Int) : Rfs m ⟨delL s.L i, last⟩ :=
  ⟨fun n hn => h.own n (mem_delL.1 hn).1, fun a ha b hb => h.ap a (mem_delL.1 ha).1 b (mem_delL.1 hb).1⟩
/-- A node whose pages stay. -/
theorem Rfs.same {m : Int} {s : St} (h : Rfs m s) {n n' : Node} (hn : n ∈ s.L) (hi : n'.ino = n.ino) (hp : n'.pages = n.pages) (last : Int) : Rfs m ⟨setL s.L n', last⟩ := by
  have e : refsN n' = refsN n := by unfold refsN; rw [hp]
  exact h.set (Int.le_refl _) (.inl hn) (fun _ => hi) (by rw [e]; exact (h.own n hn).1) (fun r hr => .inl (e ▸ hr)) last
theorem refs_resize {n : Node} (size : Int) (hd : (refsN n).Nodup) : (refsN (resizeN n size).1).Nodup ∧ ∀ r ∈ refsN (resizeN n size).1, r ∈ refsN n := by
  unfold resizeN
  split
  · exact ⟨hd, fun r hr => hr⟩
  · simp only
    split
    · have hs : (refsN { n with size := size, pages := n.pages.take (needI size).toNat }).Sublist (refsN n) := (List.take_sublist _ _).filter _
      exact ⟨hs.nodup hd, fun r hr => hs.subset hr⟩
    · have e : refsN { n with size := size, pages := n.pages ++ List.replicate ((needI size).toNat - n.pages.length) 0 } = refsN n := by
        unfold refsN
        rw [List.filter_append]
        have : (List.replicate ((needI size).toNat - n.pages.length) (0 : Int)).filter (fun x => !decide (x = 0)) = [] := by
          rw [List.filter_eq_nil_iff]
          intro x hx
          rw [List.eq_of_mem_replicate hx]; simp
        rw [this, List.append_nil]
      rw [e]
      exact ⟨hd, fun r hr => hr⟩
theorem filter_set (r : Int) : ∀ (l : List Int) (i : Nat), (l.filter (fun x => !decide (x = 0))).Nodup → r ∉ l → ((l.set i r).filter (fun x => !decide (x = 0))).Nodup ∧ ∀ x ∈ (l.set i r).filter (fun x => !decide (x = 0)), x ∈ l.filter (fun x => !decide (x = 0)) ∨ x = r
  | [], _, h, _ => ⟨by simpa using h, by simp⟩
  | y :: l, 0, h, hr => by
    have hr2 : r ∉ l := fun q => hr (List.mem_cons_of_mem _ q)
    have hl : (l.filter (fun x => !decide (x = 0))).Nodup := (((List.sublist_cons_self y l).filter _).nodup h)
    rw [List.set_cons_zero, List.filter_cons]
    split
    · refine ⟨List.nodup_cons.2 ⟨fun q => hr2 (List.mem_filter.1 q).1, hl⟩, fun x hx => ?_⟩
      rcases List.mem_cons.1 hx with rfl | q
      · exact .inr rfl
      · exact .inl (((List.sublist_cons_self y l).filter _).subset q)
    · exact ⟨hl, fun x hx => .inl (((List.sublist_cons_self y l).filter _).subset hx)⟩
  | y :: l, i + 1, h, hr => by
    have hr2 : r ∉ l := fun q => hr (List.mem_cons_of_mem _ q)
    have hl : (l.filter (fun x => !decide (x = 0))).Nodup := (((List.sublist_cons_self y l).filter _).nodup h)
    obtain ⟨i1, i2⟩ := filter_set r l i hl hr2
    rw [List.set_cons_succ, List.filter_cons]
    by_cases g : y = 0
    · rw [if_neg (by simp [g])]
      exact ⟨i1, fun x hx => (i2 x hx).imp (fun q => ((List.sublist_cons_self y l).filter _).subset q) id⟩
    · rw [if_pos (by simp [g])]
      rw [List.filter_cons, if_pos (by simp [g]), List.nodup_cons] at h
      refine ⟨List.nodup_cons.2 ⟨fun q => ?_, i1⟩, fun x hx => ?_⟩
      · rcases i2 y q with q' | q'
        · exact h.1 q'
        · exact hr (by rw [← q']; exact List.mem_cons_self ..)
      · rw [List.filter_cons, if_pos (by simp [g])]
        rcases List.mem_cons.1 hx with rfl | q
        · exact .inl (List.mem_cons_self ..)
        · exact (i2 x q).imp (List.mem_cons_of_mem _) id
theorem refs_off {k : Nat} {s : St} (hg : Good k s) {m : Int} (h : Rfs m s) {dir : Int} {nm : ByteArray} {ino : Int} (hd : isDir s dir = true) (hi : (getL s.L ino).isSome = true) : Rfs m (offS s dir nm ino) := by
  obtain ⟨d1, d2, d3⟩ := dirN_mem hg hd
  have h1 : Rfs m ⟨offL s dir nm, s.last⟩ := h.same (n := dirN s dir) (n' := { dirN s dir with names := (dropE (dirN s dir).names nm).1 }) d1 rfl rfl s.last
  have hi2 : (getL (offL s dir nm) ino).isSome = true := getL_setL hi
  obtain ⟨x, hx⟩ := Option.isSome_iff_exists.1 hi2
  unfold offS
  rw [hx, Option.getD_some]
  split
  · exact h1.del ino s.last
  · exact h1.same (n := x) (n' := { x with links := x.links - 1 }) (getL_some hx).1 rfl rfl s.last
theorem refs_does {k : Nat} {s t : St} (hg : Good k s) (hk : k ≤ 2 ^ 19) {m : Int} (hm : 0 ≤ m) (h : Rfs m s) {e : Effect} (he : effB e = true) {gone : List Int} (hd : doesS s e (m + 1) = some (t, gone)) : Rfs (m + 1) t := by
  have hf := hg.fine hk
  unfold doesS at hd
  split at hd
  · obtain ⟨t', h', q⟩ := Option.map_eq_some_iff.1 hd
    simp only [Prod.mk.injEq] at q
    obtain ⟨rfl, -⟩ := q
    unfold makeS at h'
    simp only at h'
    split at h'
    · rename_i g
      simp only [Option.some.injEq] at h'
      subst h'
      obtain ⟨d1, d2, d3⟩ := dirN_mem hg g.1
      have h1 := h.same (n' := { dirN s e.dir with names := (putE (dirN s e.dir).names e.name e.ino).1 }) d1 rfl rfl s.last
      exact (h1.set (m' := m + 1) (by omega) (n := newN e.ino e.page e.dir) (.inr rfl) (fun _ => rfl) (by show ([] : List Int).Nodup; exact List.nodup_nil) (fun r hr => by cases hr) e.ino)
    · cases h'
  split at hd
  · obtain ⟨t', h', q⟩ := Option.map_eq_some_iff.1 hd
    simp only [Prod.mk.injEq] at q
    obtain ⟨rfl, -⟩ := q
    unfold linkS at h'
    simp only at h'
    split at h'
    · rename_i g
      simp only [Option.some.injEq] at h'
      subst h'
      obtain ⟨d1, d2, d3⟩ := dirN_mem hg g.1
      obtain ⟨f1, f2, f3⟩ := fileN_mem hg g.2.1
      have h1 := h.same (n' := { dirN s e.dir with names := (putE (dirN s e.dir).names e.name e.ino).1 }) d1 rfl rfl s.last
      have hfm : dirN s e.ino ∈ setL s.L { dirN s e.dir with names := (putE (dirN s e.dir).names e.name e.ino).1 } := mem_setL.2 (.inr ⟨f1, fun q => by
        have := inos_inj hg.inos f1 d1 q
        rw [this] at f3; omega⟩)
      exact (h1.same (n' := { dirN s e.ino with links := (dirN s e.ino).links + 1 }) hfm rfl rfl s.last).mono (by omega)
    · cases h'
  split at hd
  · obtain ⟨t', h', q⟩ := Option.map_eq_some_iff.1 hd
    simp only [Prod.mk.injEq] at q
    obtain ⟨rfl, -⟩ := q
    unfold removeS at h'
    by_cases g : mayS s e.dir e.name e.ino (if e.kind = 4 then 2 else 1) = true
    · rw [if_pos g] at h'
      simp only [Option.some.injEq] at h'
      subst h'
      exact (refs_off hg h (mayS_dir g).1 (mayS_dir g).2).mono (by omega)
    · rw [if_neg g] at h'; cases h'
  split at hd
  · obtain ⟨t', h', q⟩ := Option.map_eq_some_iff.1 hd
    simp only [Prod.mk.injEq] at q
    obtain ⟨rfl, -⟩ := q
    obtain ⟨s1, rfl, g1, g2, g3, g4, g5, g6, g7, g8, g9, g10⟩ := rename_mid hf h'
    have mv : ∀ {k1 : Nat} {s1 : St}, Good k1 s1 → Rfs m s1 → isDir s1 e.dir = true → isDir s1 e.to = true → (getL s1.L e.ino).isSome = true → Rfs m (moveS s1 e (dirN s e.ino).kind) := fun {k1 s1} hg1 h1 q1 q2 q3 => by
      obtain ⟨d1, d2, d3⟩ := dirN_mem hg1 q1
      unfold moveS
      simp only
      have h2 := h1.same (n' := { dirN s1 e.dir with names := (dropE (dirN s1 e.dir).names e.name).1 }) d1 rfl rfl s1.last
      have e2 : (getL (setL s1.L { dirN s1 e.dir with names := (dropE (dirN s1 e.dir).names e.name).1 }) e.to).isSome = true := getL_setL (isDir_some q2).1
      have e3 : (getL (setL s1.L { dirN s1 e.dir with names := (dropE (dirN s1 e.dir).names e.name).1 }) e.ino).isSome = true := getL_setL q3
      generalize setL s1.L { dirN s1 e.dir with names := (dropE (dirN s1 e.dir).names e.name).1 } = L2 at h2 e2 e3 ⊢
      obtain ⟨T, hT⟩ := Option.isSome_iff_exists.1 e2
      rw [dirN_some (s := ⟨L2, s1.last⟩) hT]
      have h3 := h2.same (n' := { T with names := (putE T.names e.other e.ino).1 }) (getL_some hT).1 rfl rfl s1.last
      have e4 : (getL (setL L2 { T with names := (putE T.names e.other e.ino).1 }) e.ino).isSome = true := getL_setL e3
      generalize setL L2 { T with names := (putE T.names e.other e.ino).1 } = L3 at h3 e4 ⊢
      split
      · obtain ⟨N, hN⟩ := Option.isSome_iff_exists.1 e4
        rw [dirN_some (s := ⟨L3, s1.last⟩) hN]
        exact h3.same (n' := { N with up := e.to }) (getL_some hN).1 rfl rfl s1.last
      · exact h3
    refine Rfs.mono (m := m) ?_ (by omega)
    rcases g7 with ⟨-, rfl⟩ | ⟨og, q1, q2, q3, q4, rfl⟩
    · exact mv hg h g8 g9 g10
    · exact mv (good_offS hg g2 (mayS_dir q4).2) (refs_off hg h g2 (mayS_dir q4).2) g8 g9 g10
  split at hd
  · unfold truncS at hd
    split at hd
    · rename_i g
      simp only [Option.some.injEq, Prod.mk.injEq] at hd
      obtain ⟨rfl, -⟩ := hd
      obtain ⟨f1, f2, f3⟩ := fileN_mem hg g
      obtain ⟨r1, r2⟩ := refs_resize e.size (h.own _ f1).1
      exact h.set (by omega) (.inl f1) (fun _ => resizeN_ino _ _) r1 (fun r hr => .inl (r2 r hr)) s.last
    · cases hd
  split at hd
  · unfold writeS at hd
    split at hd
    · rename_i g
      simp only [Option.some.injEq, Prod.mk.injEq] at hd
      obtain ⟨rfl, -⟩ := hd
      obtain ⟨f1, f2, f3⟩ := fileN_mem hg g.1
      obtain ⟨r1, r2⟩ := refs_resize e.size (h.own _ f1).1
      have hnot : (m + 1) ∉ (resizeN (dirN s e.ino) e.size).1.pages := fun q => by
        have hq : (m + 1) ∈ refsN (resizeN (dirN s e.ino) e.size).1 := List.mem_filter.2 ⟨q, by simp; omega⟩
        have := (h.own _ f1).2 _ (r2 _ hq)
        omega
      obtain ⟨p1, p2⟩ := filter_set (m + 1) _ e.page.toNat r1 hnot
      refine h.set (m' := m + 1) (n' := (putN (dirN s e.ino) e.page.toNat (m + 1) e.size).1) (by omega) (.inl f1) (fun _ => resizeN_ino _ _) p1 (fun r hr => ?_) s.last
      rcases p2 r hr with q | q
      · exact .inl (r2 r q)
      · right; omega
    · cases hd
  · unfold dropS at hd
    split at hd
    · simp only [Option.some.injEq, Prod.mk.injEq] at hd
      obtain ⟨rfl, -⟩ := hd
      exact (h.del e.ino s.last).mono (by omega)
    · cases hd
end Go.Proofs.YtdfjfagljngciaaGreat
