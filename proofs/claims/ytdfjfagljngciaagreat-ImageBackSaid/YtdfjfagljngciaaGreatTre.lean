/- Plain laws of states: names tell links, each directory is named once, in the one that it says; all come to the root. -/
import Derived.Test.YtdfjfagljngciaaGreatWin
set_option linter.all false
set_option maxRecDepth 100000
set_option maxHeartbeats 4000000
namespace Go.Proofs.YtdfjfagljngciaaGreat
open Go.RowKit Rx Go.MapKept

theorem bl_trans : ∀ {a b c : List UInt8}, Op.bytesLess a b = true → Op.bytesLess b c = true → Op.bytesLess a c = true
  | [], [], _, h, _ => by simp [Op.bytesLess] at h
  | [], _ :: _, [], _, h => by simp [Op.bytesLess] at h
  | [], _ :: _, _ :: _, _, _ => by simp [Op.bytesLess]
  | _ :: _, [], _, h, _ => by simp [Op.bytesLess] at h
  | _ :: _, _ :: _, [], _, h => by simp [Op.bytesLess] at h
  | x :: a, y :: b, z :: c, h1, h2 => by
    simp only [Op.bytesLess] at h1 h2 ⊢
    by_cases e1 : x = y
    · subst e1
      by_cases e2 : x = z
      · subst e2
        simp at h1 h2 ⊢
        exact bl_trans h1 h2
      · simp [e2] at h1 h2 ⊢
        exact h2
    · by_cases e2 : y = z
      · subst e2
        simp [e1] at h1 h2 ⊢
        exact h1
      · simp [e1, e2] at h1 h2
        have h3 := UInt8.lt_iff_toNat_lt.1 h1
        have h4 := UInt8.lt_iff_toNat_lt.1 h2
        have h5 : x < z := UInt8.lt_iff_toNat_lt.2 (by omega)
        have h6 : ¬ x = z := fun e => by rw [e] at h5; exact absurd h5 (UInt8.lt_irrefl z)
        simp [h5, h6]
def bl (a b : ByteArray) : Bool := Op.bytesLess a.toList b.toList
theorem bl_ne {a b : ByteArray} (h : bl a b = true) : a ≠ b := fun e => by rw [e] at h; unfold bl at h; rw [bl_irrefl] at h; cases h
theorem bl_tot {a b : ByteArray} (h : bl a b = false) (hn : a ≠ b) : bl b a = true := by
  unfold bl at h ⊢
  rw [bl_flip] at h
  simp only [Bool.not_eq_false', Bool.or_eq_true] at h
  rcases h with h | h
  · exact h
  · rw [str_eq] at h; exact absurd (of_decide_eq_true h) hn
def Srt (l : List Entry) : Prop := l.Pairwise (fun a b => bl a.name b.name = true)
def cntE (l : List Entry) (i : Int) : Int := ((l.countP (fun x => decide (x.ino = i)) : Nat) : Int)
theorem cntE_nn (l : List Entry) (i : Int) : 0 ≤ cntE l i := by unfold cntE; omega
theorem cntE_cons (x : Entry) (l : List Entry) (i : Int) : cntE (x :: l) i = (if x.ino = i then 1 else 0) + cntE l i := by
  unfold cntE
  rw [List.countP_cons]
  by_cases h : x.ino = i <;> simp [h] <;> omega
theorem cntE_pos {l : List Entry} {i : Int} {x : Entry} (hx : x ∈ l) (hi : x.ino = i) : 1 ≤ cntE l i := by
  unfold cntE
  have : 0 < l.countP (fun x => decide (x.ino = i)) := List.countP_pos_iff.2 ⟨x, hx, by simpa using hi⟩
  omega
theorem cntE_ex {l : List Entry} {i : Int} (h : 1 ≤ cntE l i) : ∃ x ∈ l, x.ino = i := by
  unfold cntE at h
  have : 0 < l.countP (fun x => decide (x.ino = i)) := by omega
  obtain ⟨x, hx, hi⟩ := List.countP_pos_iff.1 this
  exact ⟨x, hx, by simpa using hi⟩
theorem cnt_ins (nm : ByteArray) (ino i : Int) : ∀ (l : List Entry), cntE (insE l nm ino) i = cntE l i + if ino = i then 1 else 0
  | [] => by rw [insE, cntE_cons]; unfold cntE; simp
  | x :: l => by
    rw [insE]
    split
    · rw [cntE_cons ⟨nm, ino⟩]; simp only; omega
    · rw [cntE_cons, cntE_cons, cnt_ins nm ino i l]; omega
theorem srt_ins {nm : ByteArray} {ino : Int} : ∀ {l : List Entry}, Srt l → (∀ x ∈ l, x.name ≠ nm) → Srt (insE l nm ino)
  | [], _, _ => by simp [insE, Srt]
  | x :: l, h, hn => by
    unfold Srt at h
    rw [List.pairwise_cons] at h
    rw [insE]
    split
    · rename_i g
      refine List.pairwise_cons.2 ⟨fun y hy => ?_, List.pairwise_cons.2 h⟩
      rcases List.mem_cons.1 hy with rfl | hy
      · exact g
      · exact bl_trans g (h.1 y hy)
    · rename_i g
      have hx := hn x (List.mem_cons_self ..)
      refine List.pairwise_cons.2 ⟨fun y hy => ?_, srt_ins h.2 (fun z hz => hn z (List.mem_cons_of_mem _ hz))⟩
      rcases mem_insE.1 hy with rfl | hy
      · exact bl_tot (by simpa [bl] using g) (fun e => hx e.symm)
      · exact h.1 y hy
theorem srt_drop {l : List Entry} (h : Srt l) (nm : ByteArray) : Srt (dropE l nm).1 := List.Pairwise.filter _ h
theorem srt_apart {l : List Entry} (h : Srt l) {x y : Entry} (hx : x ∈ l) (hy : y ∈ l) (e : x.name = y.name) : x = y := by
  induction l with
  | nil => cases hx
  | cons z l ih =>
    unfold Srt at h
    rw [List.pairwise_cons] at h
    rcases List.mem_cons.1 hx with rfl | hx'
    · rcases List.mem_cons.1 hy with rfl | hy'
      · rfl
      · exact absurd e (bl_ne (h.1 y hy'))
    · rcases List.mem_cons.1 hy with rfl | hy'
      · exact absurd e.symm (bl_ne (h.1 x hx'))
      · exact ih h.2 hx' hy'
theorem drop_none {l : List Entry} {nm : ByteArray} (h : ∀ x ∈ l, x.name ≠ nm) : (dropE l nm).1 = l := by
  unfold dropE
  rw [List.filter_eq_self]
  intro x hx
  simpa using h x hx
theorem drop_cons (x : Entry) (l : List Entry) (nm : ByteArray) : (dropE (x :: l) nm).1 = if x.name = nm then (dropE l nm).1 else x :: (dropE l nm).1 := by
  unfold dropE
  simp only [List.filter_cons]
  by_cases h : x.name = nm <;> simp [h]
theorem cnt_drop {nm : ByteArray} {i : Int} : ∀ {l : List Entry} {x : Entry}, Srt l → x ∈ l → x.name = nm → cntE (dropE l nm).1 i = cntE l i - if x.ino = i then 1 else 0
  | y :: l, x, h, hx, e => by
    have h' := h
    unfold Srt at h
    rw [List.pairwise_cons] at h
    rw [drop_cons]
    rcases List.mem_cons.1 hx with rfl | hx'
    · rw [if_pos e, drop_none (fun z hz q => bl_ne (h.1 z hz) (e.trans q.symm)), cntE_cons]; omega
    · have hne : y.name ≠ nm := fun q => bl_ne (h.1 x hx') (q.trans e.symm)
      rw [if_neg hne, cntE_cons, cntE_cons, cnt_drop h.2 hx' e]; omega
/-- A name that comes and goes. -/
theorem drop_ins {nm : ByteArray} {ino : Int} : ∀ {l : List Entry}, (∀ x ∈ l, x.name ≠ nm) → (dropE (insE l nm ino) nm).1 = l
  | [], _ => by rw [insE, drop_cons, if_pos rfl]; rfl
  | x :: l, hn => by
    have hx := hn x (List.mem_cons_self ..)
    rw [insE]
    split
    · rw [drop_cons, if_pos rfl, drop_none hn]
    · rw [drop_cons, if_neg hx, drop_ins (fun z hz => hn z (List.mem_cons_of_mem _ hz))]
/-- A name that goes and comes. -/
theorem ins_drop {nm : ByteArray} {ino : Int} : ∀ {l : List Entry} {x : Entry}, Srt l → x ∈ l → x = ⟨nm, ino⟩ → insE (dropE l nm).1 nm ino = l
  | y :: l, x, h, hx, e => by
    unfold Srt at h
    rw [List.pairwise_cons] at h
    rw [drop_cons]
    rcases List.mem_cons.1 hx with rfl | hx'
    · subst e
      rw [if_pos rfl, drop_none (fun z hz q => bl_ne (h.1 z hz) q.symm)]
      cases l with
      | nil => rfl
      | cons z l =>
        have hz := h.1 z (List.mem_cons_self ..)
        rw [insE, if_pos (show Op.bytesLess nm.toList z.name.toList = true from hz)]
    · have h1 := h.1 x hx'
      have hne : y.name ≠ nm := fun q => bl_ne h1 (by rw [q, e])
      have h2 : ¬ Op.bytesLess nm.toList y.name.toList = true := fun q => by
        have h3 : bl x.name y.name = true := by rw [e]; exact q
        have := bl_ne (bl_trans h1 h3 : bl y.name y.name = true)
        exact this rfl
      rw [if_neg hne, insE, if_neg h2, ins_drop h.2 hx' e]
def timesL (L : List Node) (i : Int) : Int := sumF (fun n => cntE n.names i) L
theorem times_nn : ∀ (L : List Node) (i : Int), 0 ≤ timesL L i
  | [], _ => by simp [timesL, sumF]
  | x :: L, i => by
    have h1 := cntE_nn x.names i
    have h2 := times_nn L i
    unfold timesL at h2 ⊢
    rw [sumF_cons]; omega
theorem times_pos : ∀ {L : List Node} {i : Int} {n : Node} {x : Entry}, n ∈ L → x ∈ n.names → x.ino = i → 1 ≤ timesL L i
  | y :: L, i, n, x, hn, hx, hi => by
    unfold timesL
    rw [sumF_cons]
    have h2 := times_nn L i
    unfold timesL at h2
    rcases List.mem_cons.1 hn with rfl | hn'
    · have := cntE_pos hx hi; omega
    · have h1 := cntE_nn y.names i
      have := times_pos hn' hx hi
      unfold timesL at this; omega
theorem times_ex : ∀ {L : List Node} {i : Int}, 1 ≤ timesL L i → ∃ n ∈ L, ∃ x ∈ n.names, x.ino = i
  | [], i, h => by simp [timesL, sumF] at h
  | y :: L, i, h => by
    unfold timesL at h
    rw [sumF_cons] at h
    by_cases g : 1 ≤ cntE y.names i
    · obtain ⟨x, hx, e⟩ := cntE_ex g
      exact ⟨y, List.mem_cons_self .., x, hx, e⟩
    · obtain ⟨n, hn, x, hx, e⟩ := times_ex (L := L) (i := i) (by unfold timesL; have := cntE_nn y.names i; omega)
      exact ⟨n, List.mem_cons_of_mem _ hn, x, hx, e⟩
/-- A state whose names tell its links; P: how many more each node should have. -/
structure Tr (P : Int → Int) (s : St) : Prop where
  srt : ∀ n ∈ s.L, Srt n.names
  nmc : ∀ n ∈ s.L, ∀ x ∈ n.names, nameC x.name = 0
  kd : ∀ n ∈ s.L, n.kind = 1 ∨ n.kind = 2
  kf : ∀ n ∈ s.L, n.kind = 1 → n.names = [] ∧ n.up = 0
  ex : ∀ n ∈ s.L, ∀ x ∈ n.names, ∃ k ∈ s.L, k.ino = x.ino ∧ (k.kind = 2 → k.up = n.ino ∧ k.ino ≠ 1)
  ct : ∀ n ∈ s.L, timesL s.L n.ino + P n.ino = if n.kind = 2 then (if n.ino = 1 then 0 else 1) else n.links
  root : isDir s 1 = true
  rup : (dirN s 1).up = 1
  anc : ∀ n ∈ s.L, n.kind = 2 → Wi s 1 n.ino
  kl : ∀ n ∈ s.L, n.kind = 2 → n.links = 1 ∧ n.size = 0
theorem dirN_get {s : St} {i : Int} {n : Node} (h : getL s.L i = some n) : dirN s i = n := dirN_some h
theorem Wi.same {s t : St} {d i : Int} (h : Wi s d i) (hd : ∀ j, isDir s j = true → isDir t j = true ∧ (dirN t j).up = (dirN s j).up) : Wi t d i := by
  induction h with
  | refl => exact .refl
  | up h1 h2 _ ih =>
    obtain ⟨e1, e2⟩ := hd _ h1
    exact .up e1 (by rw [e2]; exact h2) (by rw [e2]; exact ih)
theorem isDir_get {s : St} {i : Int} {n : Node} (h : getL s.L i = some n) : isDir s i = decide (n.kind = 2) := by
  unfold isDir
  rw [dirN_some h, h]; simp
theorem isDir_no {s : St} {i : Int} (h : getL s.L i = none) : isDir s i = false := by
  unfold isDir; rw [h]; simp
/-- One node is another one: its names, or links. -/
theorem Tr.upd {P P' : Int → Int} {s : St} (h : Tr P s) (hI : Inos s.L) {n n' : Node} (hn : n ∈ s.L) (h1 : n'.ino = n.ino) (h2 : n'.kind = n.kind) (h3 : n'.up = n.up) (hs : Srt n'.names) (hc : ∀ x ∈ n'.names, nameC x.name = 0)
    (hf : n.kind = 1 → n'.names = []) (hl : n.kind = 2 → n'.links = 1 ∧ n'.size = 0)
    (hx : ∀ x ∈ n'.names, x ∈ n.names ∨ ∃ k ∈ s.L, k.ino = x.ino ∧ (k.kind = 2 → k.up = n.ino ∧ k.ino ≠ 1))
    (hP : ∀ i, P' i = P i + cntE n.names i - cntE n'.names i + (if i = n.ino ∧ n.kind = 1 then n'.links - n.links else 0)) : Tr P' ⟨setL s.L n', s.last⟩ := by
  have hg : getL s.L n'.ino = some n := by rw [h1]; exact getL_mem hI hn
  have hmem : ∀ {x : Node}, x ∈ setL s.L n' → x = n' ∨ (x ∈ s.L ∧ x.ino ≠ n.ino) := fun hx => by
    rcases mem_setL.1 hx with q | ⟨q1, q2⟩
    · exact .inl q
    · exact .inr ⟨q1, by rw [← h1]; exact q2⟩
  have hget : ∀ j, getL (setL s.L n') j = if n'.ino = j then some n' else getL s.L j := fun j => by rw [getL_set hI]
  have hdir : ∀ j, isDir s j = true → isDir ⟨setL s.L n', s.last⟩ j = true ∧ (dirN ⟨setL s.L n', s.last⟩ j).up = (dirN s j).up := fun j hj => by
    obtain ⟨x, q1, q2⟩ := isDir_iff.1 hj
    have hj' := hget j
    by_cases g : n'.ino = j
    · rw [if_pos g] at hj'
      have hnx : x = n := by
        have := getL_mem hI hn
        rw [← h1, g, q1] at this; exact Option.some.inj this
      subst hnx
      rw [isDir_get (s := ⟨setL s.L n', s.last⟩) hj', dirN_some (s := ⟨setL s.L n', s.last⟩) hj', dirN_some q1]
      exact ⟨by rw [h2]; simpa using q2, h3⟩
    · rw [if_neg g, q1] at hj'
      rw [isDir_get (s := ⟨setL s.L n', s.last⟩) hj', dirN_some (s := ⟨setL s.L n', s.last⟩) hj', dirN_some q1]
      exact ⟨by simpa using q2, rfl⟩
  have hex : ∀ {k : Node}, k ∈ s.L → ∃ k' ∈ setL s.L n', k'.ino = k.ino ∧ k'.kind = k.kind ∧ k'.up = k.up := fun {k} hk => by
    by_cases g : k.ino = n.ino
    · have : k = n := inos_inj hI hk hn g
      subst this
      exact ⟨n', mem_setL.2 (.inl rfl), h1, h2, h3⟩
    · exact ⟨k, mem_setL.2 (.inr ⟨hk, by rw [h1]; exact g⟩), rfl, rfl, rfl⟩
  refine ⟨fun x hx' => ?_, fun x hx' => ?_, fun x hx' => ?_, fun x hx' hk => ?_, fun x hx' y hy => ?_, fun x hx' => ?_, (hdir 1 h.root).1, (hdir 1 h.root).2.trans h.rup, fun x hx' hk => ?_, fun x hx' hk => ?_⟩
  · rcases hmem hx' with rfl | ⟨q, -⟩
    · exact hs
    · exact h.srt x q
  · rcases hmem hx' with rfl | ⟨q, -⟩
    · exact hc
    · exact h.nmc x q
  · rcases hmem hx' with rfl | ⟨q, -⟩
    · rw [h2]; exact h.kd n hn
    · exact h.kd x q
  · rcases hmem hx' with rfl | ⟨q, -⟩
    · exact ⟨hf (h2 ▸ hk), by rw [h3]; exact (h.kf n hn (h2 ▸ hk)).2⟩
    · exact h.kf x q hk
  · have base : ∃ k ∈ s.L, k.ino = y.ino ∧ (k.kind = 2 → k.up = x.ino ∧ k.ino ≠ 1) := by
      rcases hmem hx' with rfl | ⟨q, -⟩
      · rcases hx y hy with q | ⟨k, q1, q2, q3⟩
        · obtain ⟨k, q1, q2, q3⟩ := h.ex n hn y q
          exact ⟨k, q1, q2, fun e => by rw [h1]; exact q3 e⟩
        · exact ⟨k, q1, q2, fun e => by rw [h1]; exact q3 e⟩
      · exact h.ex x q y hy
    obtain ⟨k, q1, q2, q3⟩ := base
    obtain ⟨k', e1, e2, e3, e4⟩ := hex q1
    exact ⟨k', e1, e2.trans q2, fun e => by rw [e4, e2]; exact q3 (e3 ▸ e)⟩
  · have ht : timesL (setL s.L n') x.ino = timesL s.L x.ino - cntE n.names x.ino + cntE n'.names x.ino := by
      unfold timesL
      exact sum_set (f := fun n => cntE n.names x.ino) hI hg
    show timesL (setL s.L n') x.ino + P' x.ino = _
    rw [ht, hP]
    rcases hmem hx' with rfl | ⟨q, q'⟩
    · have h5 := h.ct n hn
      rw [h1, h2]
      rcases h.kd n hn with hk | hk
      · have e2 : ¬ n.kind = 2 := by omega
        rw [if_neg e2] at h5
        rw [if_pos (⟨rfl, hk⟩ : n.ino = n.ino ∧ n.kind = 1), if_neg e2]; omega
      · have e2 : ¬ (n.ino = n.ino ∧ n.kind = 1) := fun q => by omega
        rw [if_pos hk] at h5
        rw [if_neg e2, if_pos hk]; omega
    · have := h.ct x q
      rw [if_neg (fun e => q' e.1)]; omega
  · rcases hmem hx' with rfl | ⟨q, -⟩
    · rw [h1]; exact (h.anc n hn (h2 ▸ hk)).same hdir
    · exact (h.anc x q hk).same hdir
  · rcases hmem hx' with rfl | ⟨q, -⟩
    · exact hl (h2 ▸ hk)
    · exact h.kl x q hk
/-- A file, or a directory without names, that nothing names goes. -/
theorem Tr.del {P : Int → Int} {s : St} (h : Tr P s) (hI : Inos s.L) {n : Node} (hn : n ∈ s.L) (hnn : n.names = []) (h0 : timesL s.L n.ino = 0) (h1 : n.ino ≠ 1) (hP0 : n.kind = 2 → ∀ i, i ≠ n.ino → P i = 0) : Tr (fun i => if i = n.ino then 0 else P i) ⟨delL s.L n.ino, s.last⟩ := by
  have hgn := getL_mem hI hn
  have hget : ∀ j, j ≠ n.ino → getL (delL s.L n.ino) j = getL s.L j := fun j hj => by
    cases hg : getL s.L j with
    | none =>
      refine getL_no fun x hx q => ?_
      exact getL_none hg x (mem_delL.1 hx).1 q
    | some x =>
      obtain ⟨q1, q2⟩ := getL_some hg
      have := getL_mem (inos_delL hI n.ino) (mem_delL.2 ⟨q1, by rw [q2]; exact hj⟩)
      rw [q2] at this; exact this
  have htm : ∀ i, timesL (delL s.L n.ino) i = timesL s.L i := fun i => by
    have := sum_del (f := fun n => cntE n.names i) hI hgn
    unfold timesL
    rw [this, hnn]
    simp [cntE]
  -- no directory is below it
  have hup : n.kind = 2 → ∀ k ∈ s.L, k.kind = 2 → k.ino ≠ n.ino → k.up ≠ n.ino := fun hk2 k hk hkk hne e => by
    by_cases g : k.ino = 1
    · have := h.rup
      have hg1 := getL_mem hI hk
      rw [g] at hg1
      rw [dirN_some hg1] at this
      omega
    · have hct := h.ct k hk
      rw [if_pos hkk, if_neg g, hP0 hk2 k.ino hne] at hct
      obtain ⟨m, hm, x, hx, hxi⟩ := times_ex (L := s.L) (i := k.ino) (by omega)
      obtain ⟨k', q1, q2, q3⟩ := h.ex m hm x hx
      have : k' = k := inos_inj hI q1 hk (q2.trans hxi)
      subst this
      have hmn : m = n := inos_inj hI hm hn ((q3 hkk).1.symm.trans e)
      rw [hmn, hnn] at hx; cases hx
  have hwi : ∀ i, Wi s 1 i → i ≠ n.ino → Wi ⟨delL s.L n.ino, s.last⟩ 1 i := fun i hi => by
    induction hi with
    | refl => exact fun _ => .refl
    | @up i q1 q2 q3 ih =>
      intro hne
      obtain ⟨x, g1, g2⟩ := isDir_iff.1 q1
      have hx := getL_some g1
      have hgx : getL (delL s.L n.ino) i = some x := by rw [hget i hne, g1]
      have hdx : dirN ⟨delL s.L n.ino, s.last⟩ i = dirN s i := by rw [dirN_some (s := ⟨delL s.L n.ino, s.last⟩) hgx, dirN_some g1]
      have hun : (dirN s i).up ≠ n.ino := by
        rw [dirN_some g1]
        rcases h.kd n hn with hk | hk
        · intro e
          rw [dirN_some g1, e] at q3
          -- what is above a directory is one
          generalize hni : n.ino = ni at q3
          cases q3 with
          | refl => exact h1 hni
          | up r1 _ _ => rw [← hni, isDir_get hgn] at r1; simp at r1; omega
        · exact hup hk x hx.1 g2 (by rw [hx.2]; exact hne)
      exact .up (by rw [isDir_get (s := ⟨delL s.L n.ino, s.last⟩) hgx]; simpa using g2) (by rw [hdx]; exact q2) (by rw [hdx]; exact ih hun)
  have h1' : getL (delL s.L n.ino) 1 = getL s.L 1 := hget 1 (fun e => h1 e.symm)
  obtain ⟨r, r1, r2⟩ := isDir_iff.1 h.root
  rw [r1] at h1'
  refine ⟨fun x hx => h.srt x (mem_delL.1 hx).1, fun x hx => h.nmc x (mem_delL.1 hx).1, fun x hx => h.kd x (mem_delL.1 hx).1, fun x hx => h.kf x (mem_delL.1 hx).1, fun x hx y hy => ?_, fun x hx => ?_, ?_, ?_, fun x hx hk => ?_, fun x hx => h.kl x (mem_delL.1 hx).1⟩
  · obtain ⟨k, q1, q2, q3⟩ := h.ex x (mem_delL.1 hx).1 y hy
    refine ⟨k, mem_delL.2 ⟨q1, fun e => ?_⟩, q2, q3⟩
    have := times_pos (mem_delL.1 hx).1 hy (q2.symm.trans e)
    omega
  · have := h.ct x (mem_delL.1 hx).1
    show timesL (delL s.L n.ino) x.ino + _ = _
    rw [htm, if_neg (mem_delL.1 hx).2]; exact this
  · rw [isDir_get (s := ⟨delL s.L n.ino, s.last⟩) h1']; simpa using r2
  · have := h.rup
    rw [dirN_some r1] at this
    rw [dirN_some (s := ⟨delL s.L n.ino, s.last⟩) h1']; exact this
  · exact hwi x.ino (h.anc x (mem_delL.1 hx).1 hk) (mem_delL.1 hx).2
/-- A new node that nothing names. -/
theorem Tr.add {P : Int → Int} {s : St} (h : Tr P s) (hI : Inos s.L) {n : Node} (hno : getL s.L n.ino = none) (hk : n.kind = 1 ∨ n.kind = 2) (hn : n.names = []) (hf : n.kind = 1 → n.up = 0) (hd : n.kind = 2 → n.links = 1 ∧ n.size = 0 ∧ isDir s n.up = true) (last : Int) :
    Tr (fun i => if i = n.ino then (if n.kind = 2 then 1 else n.links) else P i) ⟨setL s.L n, last⟩ := by
  have hset : setL s.L n = s.L ++ [n] := setL_new hno
  have hget : ∀ j, getL (setL s.L n) j = if n.ino = j then some n else getL s.L j := fun j => by rw [getL_set hI]
  have h1 : n.ino ≠ 1 := fun e => by
    obtain ⟨r, r1, -⟩ := isDir_iff.1 h.root
    rw [e, r1] at hno; cases hno
  have hdir : ∀ j, isDir s j = true → isDir ⟨setL s.L n, last⟩ j = true ∧ (dirN ⟨setL s.L n, last⟩ j).up = (dirN s j).up := fun j hj => by
    obtain ⟨x, q1, q2⟩ := isDir_iff.1 hj
    have hj' := hget j
    rw [if_neg (fun e => by rw [e, q1] at hno; cases hno), q1] at hj'
    rw [isDir_get (s := ⟨setL s.L n, last⟩) hj', dirN_some (s := ⟨setL s.L n, last⟩) hj', dirN_some q1]
    exact ⟨by simpa using q2, rfl⟩
  have hmem : ∀ {x : Node}, x ∈ setL s.L n → x = n ∨ (x ∈ s.L ∧ x.ino ≠ n.ino) := fun hx => mem_setL.1 hx
  have ht : ∀ i, timesL (setL s.L n) i = timesL s.L i := fun i => by
    rw [hset]; unfold timesL; rw [sumF_app]
    simp [sumF, cntE, hn]
  have ht0 : timesL s.L n.ino = 0 := by
    by_cases g : 1 ≤ timesL s.L n.ino
    rotate_left
    · have := times_nn s.L n.ino; omega
    · obtain ⟨m, hm, x, hx, e⟩ := times_ex g
      obtain ⟨k, q1, q2, -⟩ := h.ex m hm x hx
      have := getL_none hno k q1
      exact absurd (q2.trans e) this
  refine ⟨fun x hx => ?_, fun x hx => ?_, fun x hx => ?_, fun x hx hk1 => ?_, fun x hx y hy => ?_, fun x hx => ?_, (hdir 1 h.root).1, (hdir 1 h.root).2.trans h.rup, fun x hx hk2 => ?_, fun x hx hk2 => ?_⟩
  · rcases hmem hx with rfl | ⟨q, -⟩
    · rw [hn]; exact List.Pairwise.nil
    · exact h.srt x q
  · rcases hmem hx with rfl | ⟨q, -⟩
    · rw [hn]; intro y hy; cases hy
    · exact h.nmc x q
  · rcases hmem hx with rfl | ⟨q, -⟩
    · exact hk
    · exact h.kd x q
  · rcases hmem hx with rfl | ⟨q, -⟩
    · exact ⟨hn, hf hk1⟩
    · exact h.kf x q hk1
  · rcases hmem hx with rfl | ⟨q, -⟩
    · rw [hn] at hy; cases hy
    · obtain ⟨k, q1, q2, q3⟩ := h.ex x q y hy
      exact ⟨k, mem_setL.2 (.inr ⟨q1, getL_none hno k q1⟩), q2, q3⟩
  · show timesL (setL s.L n) x.ino + _ = _
    rw [ht]
    rcases hmem hx with rfl | ⟨q, q'⟩
    · rw [ht0, if_pos rfl]
      split
      · first | omega | (rw [if_neg h1]; omega)
      · omega
    · rw [if_neg q']; exact h.ct x q
  · rcases hmem hx with rfl | ⟨q, -⟩
    · obtain ⟨-, -, hu⟩ := hd hk2
      obtain ⟨u, u1, u2⟩ := isDir_iff.1 hu
      obtain ⟨u3, u4⟩ := getL_some u1
      have hgx := hget x.ino
      rw [if_pos rfl] at hgx
      have hdx := dirN_some (s := ⟨setL s.L x, last⟩) hgx
      have hw := h.anc u u3 u2
      rw [u4] at hw
      refine .up (by rw [isDir_get (s := ⟨setL s.L x, last⟩) hgx]; simpa using hk2) (by rw [hdx]; intro e; rw [e] at u1; rw [u1] at hno; cases hno) ?_
      rw [hdx]; exact hw.same hdir
    · exact (h.anc x q hk2).same hdir
  · rcases hmem hx with rfl | ⟨q, -⟩
    · exact ⟨(hd hk2).1, (hd hk2).2.1⟩
    · exact h.kl x q hk2
/-- A directory that nothing names is in another one. -/
theorem Tr.move {P : Int → Int} {s : St} (h : Tr P s) (hI : Inos s.L) {n : Node} (hn : n ∈ s.L) (hk : n.kind = 2) (h1 : n.ino ≠ 1) (h0 : timesL s.L n.ino = 0) {to : Int} (ht : Wi s 1 to) (hw : ¬ Wi s n.ino to) : Tr P ⟨setL s.L { n with up := to }, s.last⟩ := by
  have hgn := getL_mem hI hn
  have hget : ∀ j, getL (setL s.L { n with up := to }) j = if n.ino = j then some { n with up := to } else getL s.L j := fun j => getL_set hI _ j
  have hmem : ∀ {x : Node}, x ∈ setL s.L { n with up := to } → x = { n with up := to } ∨ (x ∈ s.L ∧ x.ino ≠ n.ino) := fun hx => mem_setL.1 hx
  have hne : ∀ j, j ≠ n.ino → isDir s j = true → isDir ⟨setL s.L { n with up := to }, s.last⟩ j = true ∧ (dirN ⟨setL s.L { n with up := to }, s.last⟩ j).up = (dirN s j).up := fun j hj hd => by
    obtain ⟨x, q1, q2⟩ := isDir_iff.1 hd
    have hj' := hget j
    rw [if_neg (fun e => hj e.symm), q1] at hj'
    rw [isDir_get (s := ⟨setL s.L { n with up := to }, s.last⟩) hj', dirN_some (s := ⟨setL s.L { n with up := to }, s.last⟩) hj', dirN_some q1]
    exact ⟨by simpa using q2, rfl⟩
  have hgn' : getL (setL s.L { n with up := to }) n.ino = some { n with up := to } := by rw [hget, if_pos rfl]
  have hdn := dirN_some (s := ⟨setL s.L { n with up := to }, s.last⟩) hgn'
  have av : ∀ i, Wi s 1 i → ¬ Wi s n.ino i → Wi ⟨setL s.L { n with up := to }, s.last⟩ 1 i := fun i hi => by
    induction hi with
    | refl => exact fun _ => .refl
    | @up i q1 q2 _ ih =>
      intro hnot
      have hi : i ≠ n.ino := fun e => hnot (by rw [e]; exact .refl)
      obtain ⟨e1, e2⟩ := hne i hi q1
      exact .up e1 (by rw [e2]; exact q2) (by rw [e2]; exact ih (fun g => hnot (.up q1 q2 g)))
  have hto : to ≠ n.ino := fun e => hw (by rw [e]; exact .refl)
  have hnw : Wi ⟨setL s.L { n with up := to }, s.last⟩ 1 n.ino :=
    .up (by rw [isDir_get (s := ⟨setL s.L { n with up := to }, s.last⟩) hgn']; simpa using hk) (by rw [hdn]; exact hto) (by rw [hdn]; exact av to ht hw)
  have all : ∀ i, Wi s 1 i → Wi ⟨setL s.L { n with up := to }, s.last⟩ 1 i := fun i hi => by
    induction hi with
    | refl => exact .refl
    | @up i q1 q2 _ ih =>
      by_cases hi : i = n.ino
      · rw [hi]; exact hnw
      · obtain ⟨e1, e2⟩ := hne i hi q1
        exact .up e1 (by rw [e2]; exact q2) (by rw [e2]; exact ih)
  have htm : ∀ i, timesL (setL s.L { n with up := to }) i = timesL s.L i := fun i => by
    have := sum_set (f := fun n => cntE n.names i) (n := { n with up := to }) hI hgn
    unfold timesL
    rw [this]
    show sumF (fun n => cntE n.names i) s.L - cntE n.names i + cntE n.names i = _
    omega
  have h1n := hne 1 (fun e => h1 e.symm) h.root
  refine ⟨fun x hx => ?_, fun x hx => ?_, fun x hx => ?_, fun x hx hk1 => ?_, fun x hx y hy => ?_, fun x hx => ?_, h1n.1, h1n.2.trans h.rup, fun x hx hk2 => ?_, fun x hx hk2 => ?_⟩
  · rcases hmem hx with rfl | ⟨q, -⟩
    · exact h.srt n hn
    · exact h.srt x q
  · rcases hmem hx with rfl | ⟨q, -⟩
    · exact h.nmc n hn
    · exact h.nmc x q
  · rcases hmem hx with rfl | ⟨q, -⟩
    · exact h.kd n hn
    · exact h.kd x q
  · rcases hmem hx with rfl | ⟨q, -⟩
    · have : n.kind = 1 := hk1
      omega
    · exact h.kf x q hk1
  · obtain ⟨m, hm, hmi, hmy⟩ : ∃ m ∈ s.L, m.ino = x.ino ∧ y ∈ m.names := by
      rcases hmem hx with rfl | ⟨q, -⟩
      · exact ⟨n, hn, rfl, hy⟩
      · exact ⟨x, q, rfl, hy⟩
    obtain ⟨k, q1, q2, q3⟩ := h.ex m hm y hmy
    have hki : k.ino ≠ n.ino := fun e => by have := times_pos hm hmy (q2.symm.trans e); omega
    exact ⟨k, mem_setL.2 (.inr ⟨q1, hki⟩), q2, fun e => by rw [← hmi]; exact q3 e⟩
  · show timesL (setL s.L { n with up := to }) x.ino + _ = _
    rw [htm]
    rcases hmem hx with rfl | ⟨q, -⟩
    · exact h.ct n hn
    · exact h.ct x q
  · rcases hmem hx with rfl | ⟨q, -⟩
    · exact hnw
    · exact all x.ino (h.anc x q hk2)
  · rcases hmem hx with rfl | ⟨q, -⟩
    · exact h.kl n hn hk
    · exact h.kl x q hk2
theorem Tr.congr {P P' : Int → Int} {s : St} (h : Tr P s) (hP : ∀ n ∈ s.L, P n.ino = P' n.ino) {last : Int} : Tr P' ⟨s.L, last⟩ :=
  ⟨h.srt, h.nmc, h.kd, h.kf, h.ex, fun n hn => by rw [← hP n hn]; exact h.ct n hn, h.root, h.rup, fun n hn hk => (h.anc n hn hk).same (fun _ q => ⟨q, rfl⟩), h.kl⟩
end Go.Proofs.YtdfjfagljngciaaGreat
