/- Package state: whether a node is within a directory: a range over the map, in any order. Plain laws of lists of nodes. Package state: rename. -/
import Derived.Test.YtdfjfagljngciaaGreatStd
import Derived.Maps.RangeRun
set_option linter.all false
set_option maxRecDepth 100000
set_option maxHeartbeats 4000000
namespace Go.Proofs.YtdfjfagljngciaaGreat.Rx
open Go.RowKit
def rngF (P : Program) (t : TypeId) (k : Value → World → Prop) (m : Value) (w : World) : Prop := upon P k ((do pure (.value (← Instr.range t m)) : Sem Next).run P w)
def nxtF (P : Program) (t : TypeId) (k : Value → World → Prop) (m : Value) (w : World) : Prop := upon P k ((do pure (.value (← Instr.next m false t)) : Sem Next).run P w)
section
variable {P : Program} {env : Env} {w w' : World} {k : Value → World → Prop} {tk : Tag k} {dst : Option Tmp} {t ty : TypeId} {x : Operand} {pos : String} {af : Array Edge} {g : Option (Nat × Bool)} {m v : Value}
@[go_sem ↓ high] theorem upon_rng : upon P (Shut k tk) ((execOp (rho env) ⟨dst, .range t x, ty, pos, af, g⟩).run P w) = rngF P t (Shut k .mk) (rho env x) w := nd rfl
@[go_sem ↓ high] theorem upon_nxt : upon P (Shut k tk) ((execOp (rho env) ⟨dst, .next x false, ty, pos, af, g⟩).run P w) = nxtF P ty (Shut k .mk) (rho env x) w := nd rfl
theorem rng_intro (h : (Instr.range t m).run P w = .ok v w') (hk : k v w') : rngF P t (Shut k tk) m w := by
  simp [rngF, Sem.run_bind, h, Shut, upon, hk]
theorem nxt_intro (h : (Instr.next m false t).run P w = .ok v w') (hk : k v w') : nxtF P t (Shut k tk) m w := by
  simp [nxtF, Sem.run_bind, h, Shut, upon, hk]
end
end Go.Proofs.YtdfjfagljngciaaGreat.Rx
namespace Go.Proofs.YtdfjfagljngciaaGreat
open Go.RowKit Rx Go.MapKept

theorem left_one (b : Nat) (seen : Array Nat) : ∀ (l : List MapEntry), (l.map (·.born)).Nodup → (∃ e ∈ l, e.born = b) → seen.contains b = false →
    (l.filter (fun x => !(seen.push b).contains x.born)).length + 1 = (l.filter (fun x => !seen.contains x.born)).length
  | [], _, h, _ => by obtain ⟨e, he, -⟩ := h; cases he
  | x :: l, hd, h, hs => by
    have hd' := List.nodup_cons.1 (by simpa using hd : (x.born :: l.map (·.born)).Nodup)
    have hc : ∀ y : Nat, (seen.push b).contains y = (seen.contains y || decide (y = b)) := fun y => by
      rw [Bool.eq_iff_iff]; simp [Array.contains_iff_mem, Array.mem_push]
    by_cases hx : x.born = b
    · have hr : l.filter (fun x => !(seen.push b).contains x.born) = l.filter (fun x => !seen.contains x.born) := by
        apply List.filter_congr
        intro y hy
        have : y.born ≠ b := fun q => hd'.1 (List.mem_map.2 ⟨y, hy, by rw [q, hx]⟩)
        simp [hc, this]
      rw [List.filter_cons, List.filter_cons, hc, hx, hs, hr]
      simp
    · have ih := left_one b seen l hd'.2 (by
        obtain ⟨e, he, q⟩ := h
        rcases List.mem_cons.1 he with rfl | he
        · exact absurd q hx
        · exact ⟨e, he, q⟩) hs
      rw [List.filter_cons, List.filter_cons, hc]
      have : decide (x.born = b) = false := by simpa using hx
      rw [this, Bool.or_false]
      split
      · simp only [List.length_cons]; omega
      · exact ih
theorem MapN.count {X : Nat → Prop} {w : World} {es : Array MapEntry} {clock : Nat} {L : List Node} (hs : Stamped es clock) (he : Ents X w es.toList L) (hd : Inos L) : es.size = L.length := by
  have h1 : (es.toList.map (·.key)).Nodup := hs.2.2
  have h2 : (L.map (fun n => Value.int .i64 n.ino)).Nodup := by
    have : L.map (fun n => Value.int .i64 n.ino) = (L.map (·.ino)).map (Value.int .i64) := by simp
    rw [this]
    unfold Inos at hd
    rw [List.Nodup, List.pairwise_map]
    exact hd.imp (fun h q => h (by simpa using q))
  have hp := (List.perm_ext_iff_of_nodup h1 h2).2 (fun a => by
    simp only [List.mem_map]
    constructor
    · rintro ⟨x, hx, rfl⟩
      obtain ⟨n, hn, e⟩ := he.1 x hx
      exact ⟨n, hn, e.1.symm⟩
    · rintro ⟨n, hn, rfl⟩
      obtain ⟨x, hx, e⟩ := he.2 n hn
      exact ⟨x, hx, e.1⟩)
  simpa using hp.length_eq
def withinN (s : St) (dir : Int) : Nat → Int → Bool
  | 0, ino => decide (ino = dir)
  | k + 1, ino => if ino = dir then true else if isDir s ino = false ∨ (dirN s ino).up = ino then false else withinN s dir k (dirN s ino).up
def withinS (s : St) (ino dir : Int) : Bool := withinN s dir s.L.length ino
theorem state_Within (X : Nat → Prop) (b m : Nat) (s : St) (hf : Fine s) (ino dir : Int) (w : World) (h : StAt w X b m s) :
    Calls Tryz.prog 111 #[.pointer (some ⟨b, 0, none⟩), .int .i64 ino, .int .i64 dir] w fun r w' => r = .returned (.bool (withinS s ino dir)) ∧ Keep w w' := by
  refine calls_rx h111 Tryz.func111 rfl Tryz.mixed (by kernel_rfl) Tryz.results111 ?_
  simp -dsimp [go_sem]
  refine (state_ok X b m s w h).mono ?_; rintro _ w1 ⟨rfl, rfl⟩; refine ret_intro ?_
  have H0 := h.hb
  have H0c := blk_cell H0; have H0f := blk_free H0; have H0l := blk_lt H0
  simp -dsimp [go_sem, H0c, H0f, H0l]
  obtain ⟨es, clock, hb, hs, he⟩ := id h.hm
  have hrng : (Instr.range 77 (.map (some m))).run Tryz.prog w = .ok (.pointer (some ⟨w.heap.size, 0, none⟩)) (w.alloc (.mapIter (some m) clock #[] clock)) := by
    simp [Instr.range, run_underlying Tryz.underlying77, MapKept.run_getObj_map hb, Result.andThen]
  refine rng_intro hrng ?_
  simp -dsimp [go_sem]
  have hN := MapN.count (X := X) (w := w) hs he hf.d
  have hl0 : (leftOf es #[]).size = s.L.length - 0 := by
    have : leftOf es #[] = es := Array.filter_eq_self.2 (fun x _ => by simp)
    rw [this, hN]; rfl
  refine loop_intro (σ := Nat × Int) (fun g => [.int .i64 g.2]) (fun g w' => g.1 ≤ s.L.length ∧ withinS s ino dir = withinN s dir (s.L.length - g.1) g.2 ∧ Keep w w' ∧ ∃ seen c0, clock ≤ c0 ∧ w'.heap[w.heap.size]? = some (.mapIter (some m) clock seen c0) ∧ (leftOf es seen).size = s.L.length - g.1) (fun g => s.L.length - g.1) (0, ino) (by simp -dsimp [go_sem]; rfl) (by simp -dsimp [go_sem]) ⟨by show 0 ≤ _; omega, rfl, keep_alloc w _, #[], clock, Nat.le_refl _, heap_alloc_new w _, hl0⟩ ?_
  rintro ⟨i, cur⟩ w1 ⟨hi, hw, k1, seen, c0, hc, hr, hl⟩
  simp only at hi hw hl
  rw [hw]
  have hb1 := k1.blk hb (fun q => q)
  have h1 := h.keep k1
  have hbm := h.size_b
  simp -dsimp [go_sem]
  rcases run_next_at (P := Tryz.prog) w1 _ w.heap.size m clock c0 seen es clock hr hb1 (fun x hx => hs.1 x hx) hc with ⟨g1, g2⟩ | ⟨e, he1, w2, hw2, g2⟩
  · rw [hl] at g1
    refine nxt_intro g2 ?_
    rw [g1, show withinN s dir 0 cur = decide (cur = dir) from rfl]
    simp -dsimp [go_sem]
    exact k1
  · obtain ⟨hme, hnc⟩ := mem_left he1
    have hone := left_one e.born seen es.toList hs.2.1 ⟨e, hme, rfl⟩ hnc
    have hone' : (leftOf es (seen.push e.born)).size + 1 = (leftOf es seen).size := by
      unfold leftOf
      simpa [← Array.length_toList] using hone
    obtain ⟨j, hj⟩ : ∃ j, s.L.length - i = j + 1 := ⟨s.L.length - i - 1, by omega⟩
    refine nxt_intro g2 ?_
    have hr2 : w2.heap[w.heap.size]? = some (.mapIter (some m) clock seen c0) := by rcases hw2 with rfl | rfl <;> exact hr
    have k2 : Keep w w2 := by rcases hw2 with rfl | rfl; exact k1; exact k1.drew
    generalize hw3 : ChangeMaps.setBlock w2 w.heap.size (.mapIter (some m) clock (seen.push e.born) clock) = w3
    have s3 : Step (fun k => k = w.heap.size) w2 w3 := by rw [← hw3]; exact Step.map _
    have hr3 : w3.heap[w.heap.size]? = some (.mapIter (some m) clock (seen.push e.born) clock) := by rw [← hw3]; exact (heap_set hr2).1
    clear hw3
    have k3 : Keep w w3 := Step.keep k2 s3 (fun i q => by omega)
    rw [hj]
    by_cases g1 : cur = dir
    · rw [show withinN s dir (j + 1) cur = true from by unfold withinN; rw [if_pos g1]]
      simp -dsimp [go_sem, g1]
      exact k3
    have hstep : withinN s dir (j + 1) cur = if isDir s cur = false ∨ (dirN s cur).up = cur then false else withinN s dir j (dirN s cur).up := by
      rw [withinN, if_neg g1]
    rw [hstep]
    simp -dsimp [go_sem, g1]
    refine (state_dir X b m s hf.d cur hf.sz w3 (h.keep k3)).mono ?_; rintro _ w4 ⟨p, q, rfl, n1, k4⟩; refine ret_intro ?_
    simp only [show (getL s.L cur).getD node0 = dirN s cur from rfl, show ((getL s.L cur).isSome && decide ((dirN s cur).kind = 2)) = isDir s cur from rfl] at n1 ⊢
    generalize hd : dirN s cur = d at n1 hstep ⊢
    obtain ⟨pa, pc, ma, mc, rfl, rfl, -⟩ := n1.slices
    unfold Node.enc
    have k5 := Keep.trans k3 k4
    cases hdir : isDir s cur
    · rw [if_pos (.inl rfl)]
      simp -dsimp [go_sem]
      exact k5.alloc _
    by_cases g4 : d.up = cur
    · rw [if_pos (.inr g4)]
      simp -dsimp [go_sem, g4]
      exact k5.alloc _
    rw [if_neg (by simp [g4])]
    simp -dsimp [go_sem, g4]
    exact back_intro (i + 1, d.up) (by simp -dsimp [go_sem]) (by simp -dsimp [go_sem]) ⟨by show i + 1 ≤ _; omega, by show withinN s dir j d.up = withinN s dir (s.L.length - (i + 1)) d.up; rw [show s.L.length - (i + 1) = j from by omega], k5.alloc _, seen.push e.born, clock, Nat.le_refl _, blk_alloc (k4.blk hr3 (fun q => q)) _, by show _ = s.L.length - (i + 1); omega⟩ (by show s.L.length - (i + 1) < j + 1; omega)
end Go.Proofs.YtdfjfagljngciaaGreat

set_option linter.all false
set_option maxRecDepth 100000
set_option maxHeartbeats 4000000
namespace Go.Proofs.YtdfjfagljngciaaGreat
open Go.RowKit Rx Go.MapKept

theorem getL_eq {L : List Node} (hd : Inos L) {n : Node} {k : Int} (hn : n ∈ L) (hk : n.ino = k) : getL L k = some n := hk ▸ getL_mem hd hn
theorem getL_no {L : List Node} {k : Int} (h : ∀ n ∈ L, n.ino ≠ k) : getL L k = none := by
  cases hg : getL L k with
  | none => rfl
  | some n => obtain ⟨h1, h2⟩ := getL_some hg; exact absurd h2 (h n h1)
theorem getL_set {L : List Node} (hd : Inos L) (n : Node) (k : Int) : getL (setL L n) k = if n.ino = k then some n else getL L k := by
  split
  · rename_i h
    exact getL_eq (inos_setL hd n) (mem_setL.2 (.inl rfl)) h
  · rename_i h
    cases hg : getL L k with
    | none =>
      refine getL_no fun x hx => ?_
      rcases mem_setL.1 hx with rfl | ⟨q, -⟩
      · exact h
      · exact getL_none hg x q
    | some x =>
      obtain ⟨h1, h2⟩ := getL_some hg
      exact getL_eq (inos_setL hd n) (mem_setL.2 (.inr ⟨h1, fun q => h (by rw [← q, h2])⟩)) h2
theorem getL_del {L : List Node} (hd : Inos L) (k' k : Int) : getL (delL L k') k = if k = k' then none else getL L k := by
  split
  · rename_i h
    refine getL_no fun x hx => ?_
    rw [h]; exact (mem_delL.1 hx).2
  · rename_i h
    cases hg : getL L k with
    | none => exact getL_no fun x hx => getL_none hg x (mem_delL.1 hx).1
    | some x =>
      obtain ⟨h1, h2⟩ := getL_some hg
      exact getL_eq (inos_delL hd k') (mem_delL.2 ⟨h1, by rw [h2]; exact h⟩) h2
theorem isDir_iff {s : St} {k : Int} : isDir s k = true ↔ ∃ n, getL s.L k = some n ∧ n.kind = 2 := by
  unfold isDir dirN
  cases hg : getL s.L k with
  | none => simp
  | some n => simp
theorem dirN_some {s : St} {k : Int} {n : Node} (h : getL s.L k = some n) : dirN s k = n := by unfold dirN; rw [h]; rfl
theorem Fine.del {s : St} (h : Fine s) (k : Int) : Fine ⟨delL s.L k, s.last⟩ :=
  ⟨inos_delL h.d k, fun x hx => h.sz x (mem_delL.1 hx).1, h.li, fun x hx => h.lk x (mem_delL.1 hx).1⟩
theorem getL_offL {s : St} (hf : Fine s) (dir : Int) (nm : ByteArray) (hd : isDir s dir = true) (k : Int) : getL (offL s dir nm) k = if dir = k then some { dirN s dir with names := (dropE (dirN s dir).names nm).1 } else getL s.L k := by
  unfold offL
  rw [getL_set hf.d]
  rw [show ({ dirN s dir with names := (dropE (dirN s dir).names nm).1 } : Node).ino = dir from dirN_ino hd]
theorem inos_offL {s : St} (hf : Fine s) (dir : Int) (nm : ByteArray) : Inos (offL s dir nm) := inos_setL hf.d _
/-- What off leaves a directory. -/
theorem isDir_off {s : St} (hf : Fine s) {dir : Int} {nm : ByteArray} {ino k : Int} (hd : isDir s dir = true) (hk : isDir s k = true) (hi : (getL s.L ino).isSome = true) (hne : k ≠ ino ∨ (dirN s ino).kind ≠ 2) : isDir (offS s dir nm ino) k = true := by
  obtain ⟨nk, q1, q2⟩ := isDir_iff.1 hk
  obtain ⟨x, hx⟩ := Option.isSome_iff_exists.1 hi
  have hkd : ∃ n', getL (offL s dir nm) k = some n' ∧ n'.kind = 2 := by
    rw [getL_offL hf dir nm hd]
    split
    · rename_i h; subst h
      exact ⟨_, rfl, by rw [dirN_some q1]; exact q2⟩
    · exact ⟨nk, q1, q2⟩
  obtain ⟨n', r1, r2⟩ := hkd
  have hik : ((getL (offL s dir nm) ino).getD node0).kind = (dirN s ino).kind := by
    rw [getL_offL hf dir nm hd]
    split
    · rename_i h; subst h; rfl
    · rfl
  have hiino : ((getL (offL s dir nm) ino).getD node0).ino = ino := by
    rw [getL_offL hf dir nm hd]
    split
    · rename_i h; exact (dirN_ino hd).trans h
    · rw [hx]; exact (getL_some hx).2
  rw [isDir_iff]
  unfold offS
  rw [hik]
  split
  · rename_i h
    have hki : k ≠ ino := by rcases hne with q | q; exact q; exact absurd h q
    exact ⟨n', by show getL (delL _ _) k = _; rw [getL_del (inos_offL hf dir nm), if_neg hki]; exact r1, r2⟩
  · rename_i h
    refine ⟨n', ?_, r2⟩
    show getL (setL _ _) k = _
    rw [getL_set (inos_offL hf dir nm), if_neg]
    · exact r1
    · rw [show ({ (getL (offL s dir nm) ino).getD node0 with links := ((getL (offL s dir nm) ino).getD node0).links - 1 } : Node).ino = ino from hiino]
      rintro rfl
      rw [r1] at hik
      exact h (by rw [← hik]; exact r2)
/-- .. and any other node. -/
theorem getL_off {s : St} (hf : Fine s) {dir : Int} {nm : ByteArray} {ino k : Int} (hd : isDir s dir = true) (hi : (getL s.L ino).isSome = true) (hne : k ≠ ino) : getL (offS s dir nm ino).L k = if dir = k then some { dirN s dir with names := (dropE (dirN s dir).names nm).1 } else getL s.L k := by
  have hiino : ((getL (offL s dir nm) ino).getD node0).ino = ino := by
    obtain ⟨x, hx⟩ := Option.isSome_iff_exists.1 hi
    rw [getL_offL hf dir nm hd]
    split
    · rename_i h; exact (dirN_ino hd).trans h
    · rw [hx]; exact (getL_some hx).2
  rw [← getL_offL hf dir nm hd]
  unfold offS
  split
  · show getL (delL _ _) k = _
    rw [getL_del (inos_offL hf dir nm), if_neg hne]
  · show getL (setL _ _) k = _
    rw [getL_set (inos_offL hf dir nm), if_neg]
    rw [show ({ (getL (offL s dir nm) ino).getD node0 with links := ((getL (offL s dir nm) ino).getD node0).links - 1 } : Node).ino = ino from hiino]
    exact fun q => hne q.symm
end Go.Proofs.YtdfjfagljngciaaGreat

set_option linter.all false
set_option maxRecDepth 100000
set_option maxHeartbeats 4000000
namespace Go.Proofs.YtdfjfagljngciaaGreat
open Go.RowKit Rx Go.MapKept

def moveS (s : St) (e : Effect) (kind : Int) : St :=
  let L2 := setL s.L { dirN s e.dir with names := (dropE (dirN s e.dir).names e.name).1 }
  let t := dirN ⟨L2, s.last⟩ e.to
  let L3 := setL L2 { t with names := (putE t.names e.other e.ino).1 }
  if kind = 2 then ⟨setL L3 { dirN ⟨L3, s.last⟩ e.ino with up := e.to }, s.last⟩ else ⟨L3, s.last⟩
def renameS (s : St) (e : Effect) : Option St :=
  let f := findN (dirN s e.dir).names e.name
  let n := dirN s e.ino
  let g := findN (dirN s e.to).names e.other
  if isDir s e.dir = true ∧ f.2 = true ∧ f.1 = e.ino ∧ isDir s e.to = true ∧ (getL s.L e.ino).isSome = true ∧ ¬ (n.kind = 2 ∧ withinS s e.to e.ino = true) then
    if g.2 = true then
      if g.1 = e.ino ∨ mayS s e.to e.other g.1 n.kind = false then none else some (moveS (offS s e.to e.other g.1) e n.kind)
    else some (moveS s e n.kind)
  else none
theorem findN_ne {l : List Entry} {nm : ByteArray} (h : (findN l nm).2 = true) : l ≠ [] := by
  rintro rfl
  simp [findN] at h
theorem sz_off {s : St} (hf : Fine s) {K : Nat} (hs : ∀ n ∈ s.L, n.pages.length ≤ 2 ^ 20 ∧ n.names.length ≤ K) (dir : Int) (nm : ByteArray) (ino : Int) : Inos (offS s dir nm ino).L ∧ ∀ x ∈ (offS s dir nm ino).L, x.pages.length ≤ 2 ^ 20 ∧ x.names.length ≤ K := by
  have hN : ∀ k, (dirN s k).pages.length ≤ 2 ^ 20 ∧ (dirN s k).names.length ≤ K := fun k => by
    unfold dirN
    cases hg : getL s.L k with
    | none => simp [node0]
    | some n => exact hs n (getL_some hg).1
  have h0 : ∀ x ∈ offL s dir nm, x.pages.length ≤ 2 ^ 20 ∧ x.names.length ≤ K := fun x hx => by
    rcases mem_setL.1 hx with rfl | ⟨q, -⟩
    · have := hN dir
      exact ⟨this.1, Nat.le_trans (List.length_filter_le _ _) this.2⟩
    · exact hs x q
  have h1 : ((getL (offL s dir nm) ino).getD node0).pages.length ≤ 2 ^ 20 ∧ ((getL (offL s dir nm) ino).getD node0).names.length ≤ K := by
    cases hg : getL (offL s dir nm) ino with
    | none => simp [node0]
    | some n => exact h0 n (getL_some hg).1
  unfold offS
  split
  · exact ⟨inos_delL (inos_offL hf dir nm) ino, fun x hx => h0 x (mem_delL.1 hx).1⟩
  · refine ⟨inos_setL (inos_offL hf dir nm) _, fun x hx => ?_⟩
    rcases mem_setL.1 hx with rfl | ⟨q, -⟩
    · exact h1
    · exact h0 x q
theorem StAt.wide {w w' : World} {X Y : Nat → Prop} {b m : Nat} {s : St} (h : StAt w X b m s) (k : Keep w w') (hY : ∀ k, Y k → w.heap.size ≤ k ∧ k < w'.heap.size) : StAt w' (fun k => X k ∨ Y k) b m s :=
  ⟨k.blk h.hb (fun q => q), (h.hm.mono (fun i hi q => q.resolve_right (fun y => by have := hY i y; omega))).keep k, .inl h.xb, .inl h.xm, fun i q => q.elim (fun x => Nat.lt_of_lt_of_le (h.xl i x) k.size) (fun y => (hY i y).2)⟩
theorem StAt.mono {w : World} {X Y : Nat → Prop} {b m : Nat} {s : St} (h : StAt w X b m s) (hb : Y b) (hm : Y m) (hY : ∀ k, Y k → X k) : StAt w Y b m s :=
  ⟨h.hb, h.hm.mono (fun _ _ q => hY _ q), hb, hm, fun k q => h.xl k (hY k q)⟩
/-- What a node in memory of one's own is worth where other nodes are. -/
theorem NNew.put {B : Nat} {w : World} {n : Node} {pa va : Option Addr} {pc vc : Nat} {n' : Node} (h : NNew B w n (.slice pa n.pages.length pc) (.slice va n.names.length vc)) (h1 : n'.pages = n.pages) (h2 : n'.names = n.names) : NNew B w n' (.slice pa n'.pages.length pc) (.slice va n'.names.length vc) := by
  refine ⟨⟨by rw [h1]; exact h.po, by rw [h2]; exact h.mo, by rw [h1, h2]; exact h.ne⟩, by rw [h1]; exact h.pb, by rw [h2]; exact h.mb⟩
theorem state_rename (X : Nat → Prop) (b m : Nat) (s : St) (hf : Fine s) (e : Effect) (hn : ∀ n ∈ s.L, n.names.length < 2 ^ 20) (hok : e.ok) (a : Option Addr) (c : Nat) (w : World) (h : StAt w X b m s) :
    Calls Tryz.prog 74 #[.pointer (some ⟨b, 0, none⟩), .agg (e.enc (.slice a e.data.length c)).toArray] w fun r w' => r = .returned (.bool (renameS s e).isSome) ∧ StAt w' X b m ((renameS s e).getD s) ∧ Step (fun k => k = b ∨ k = m) w w' := by
  obtain ⟨o1, o2, o3, o4, o5, o6⟩ := hok
  refine calls_rx h74 Tryz.func74 rfl Tryz.mixed (by kernel_rfl) Tryz.results74 ?_
  unfold Effect.enc
  simp -dsimp [go_sem]
  generalize hW : w.alloc _ = W
  obtain ⟨E0, k0, z0⟩ := alloc1 hW
  clear hW
  have h0 := h.keep k0
  refine (state_dir X b m s hf.d e.dir hf.sz W h0).mono ?_; rintro _ w1 ⟨p, q, rfl, n1, k1⟩; refine ret_intro ?_
  have h1 := h0.keep k1
  have dsz := hf.szN e.dir
  unfold renameS
  simp only [show (getL s.L e.dir).getD node0 = dirN s e.dir from rfl, show ((getL s.L e.dir).isSome && decide ((dirN s e.dir).kind = 2)) = isDir s e.dir from rfl] at n1 dsz ⊢
  generalize hD : dirN s e.dir = d at n1 dsz ⊢
  generalize hdir : isDir s e.dir = ok1
  obtain ⟨pa, pc, ma, mc, rfl, rfl, -⟩ := n1.slices
  unfold Node.enc
  simp -dsimp [go_sem]
  generalize hW : w1.alloc _ = W2
  obtain ⟨R0, k2, z2⟩ := alloc1 hW
  clear hW
  have n2 := n1.keep k2
  have k12 := Keep.trans k1 k2
  have E2 := k12.blk E0 (fun q => q)
  have h2 := h0.keep k12
  have R0c := blk_cell R0; have R0f := blk_free R0; have R0l := blk_lt R0; have E2c := blk_cell E2; have E2f := blk_free E2; have E2l := blk_lt E2
  try simp -dsimp [go_sem, R0c, R0f, R0l, E2c, E2f, E2l]
  refine (dirs_Find (fun _ => False) _ d.names e.name W2 ((n2.mo.all flat_entry).sl (fun _ _ q => q)) (by omega)).mono ?_; rintro _ w3 ⟨rfl, k3⟩; refine ret_intro ?_
  generalize hF : findN d.names e.name = F
  obtain ⟨f1, f2⟩ := F
  have h3 := h2.keep k3
  replace R0 := Step.blk k3 R0 (fun q => q); replace E2 := Step.blk k3 E2 (fun q => q)
  clear R0c R0f R0l E2c E2f E2l
  have R0c := blk_cell R0; have R0f := blk_free R0; have R0l := blk_lt R0; have E2c := blk_cell E2; have E2f := blk_free E2; have E2l := blk_lt E2
  simp only
  simp -dsimp [go_sem, R0c, R0f, R0l, E2c, E2f, E2l]
  refine (state_dir X b m s hf.d e.to hf.sz w3 h3).mono ?_; rintro _ w4 ⟨p4, q4, rfl, n4, k4⟩; refine ret_intro ?_
  have tsz := hf.szN e.to
  simp only [show (getL s.L e.to).getD node0 = dirN s e.to from rfl, show ((getL s.L e.to).isSome && decide ((dirN s e.to).kind = 2)) = isDir s e.to from rfl] at n4 tsz ⊢
  generalize hT : dirN s e.to = t at n4 tsz ⊢
  generalize hto : isDir s e.to = ok2
  obtain ⟨pa4, pc4, ma4, mc4, rfl, rfl, -⟩ := n4.slices
  unfold Node.enc
  replace R0 := Step.blk k4 R0 (fun q => q); replace E2 := Step.blk k4 E2 (fun q => q)
  clear R0c R0f R0l E2c E2f E2l
  simp -dsimp [go_sem]
  generalize hW : w4.alloc _ = W5
  obtain ⟨T0, k5, z5⟩ := alloc1 hW
  clear hW
  replace R0 := Step.blk k5 R0 (fun q => q); replace E2 := Step.blk k5 E2 (fun q => q)
  have R0c := blk_cell R0; have R0f := blk_free R0; have R0l := blk_lt R0; have E2c := blk_cell E2; have E2f := blk_free E2; have E2l := blk_lt E2; have T0c := blk_cell T0; have T0f := blk_free T0; have T0l := blk_lt T0
  try simp -dsimp [go_sem, R0c, R0f, R0l, E2c, E2f, E2l, T0c, T0f, T0l]
  have k45 := Keep.trans k4 k5
  have h5 := h3.keep k45
  refine (state_Get X b m s hf.d e.ino hf.sz W5 h5).mono ?_; rintro _ w6 ⟨p6, q6, rfl, n6, k6⟩; refine ret_intro ?_
  have nsz := hf.szN e.ino
  simp only [show (getL s.L e.ino).getD node0 = dirN s e.ino from rfl] at n6 nsz ⊢
  generalize hN : dirN s e.ino = n at n6 nsz ⊢
  generalize hIs : (getL s.L e.ino).isSome = ok3
  obtain ⟨pa6, pc6, ma6, mc6, rfl, rfl, -⟩ := n6.slices
  unfold Node.enc
  replace R0 := Step.blk k6 R0 (fun q => q); replace E2 := Step.blk k6 E2 (fun q => q); replace T0 := Step.blk k6 T0 (fun q => q)
  clear R0c R0f R0l E2c E2f E2l T0c T0f T0l
  simp -dsimp [go_sem]
  generalize hW : w6.alloc _ = W7
  obtain ⟨N0, k7, z7⟩ := alloc1 hW
  clear hW
  replace R0 := Step.blk k7 R0 (fun q => q); replace E2 := Step.blk k7 E2 (fun q => q); replace T0 := Step.blk k7 T0 (fun q => q)
  have R0c := blk_cell R0; have R0f := blk_free R0; have R0l := blk_lt R0; have E2c := blk_cell E2; have E2f := blk_free E2; have E2l := blk_lt E2; have T0c := blk_cell T0; have T0f := blk_free T0; have T0l := blk_lt T0; have N0c := blk_cell N0; have N0f := blk_free N0; have N0l := blk_lt N0
  have kw : Keep w W7 := Keep.trans k0 (Keep.trans k12 (Keep.trans k3 (Keep.trans k45 (Keep.trans k6 k7))))
  have h7 := h.keep kw
  have no : ∀ w', Keep W7 w' → StAt w' X b m s ∧ Step (fun k => k = b ∨ k = m) w w' := fun w' k => ⟨h7.keep k, (Keep.trans kw k).any⟩
  have noX : ∀ w', Keep W7 w' → ∀ R : Option St, R = none → StAt w' X b m (R.getD s) ∧ Step (fun k => k = b ∨ k = m) w w' := fun w' k R hR => by subst hR; exact no w' k
  refine join_intro (σ := Unit) (fun _ => []) (fun _ w' => Keep W7 w' ∧ ok1 = true ∧ f2 = true ∧ f1 = e.ino ∧ ok2 = true ∧ ok3 = true ∧ ¬ (n.kind = 2 ∧ withinS s e.to e.ino = true)) (by simp -dsimp [go_sem]; rfl) ?_ ?_
  · skip
    cases ok1
    · simp -dsimp [go_sem, R0c, R0f, R0l, E2c, E2f, E2l, T0c, T0f, T0l, N0c, N0f, N0l]
      exact no _ (Keep.refl _)
    cases f2
    · simp -dsimp [go_sem, R0c, R0f, R0l, E2c, E2f, E2l, T0c, T0f, T0l, N0c, N0f, N0l]
      exact no _ (Keep.refl _)
    by_cases g1 : f1 = e.ino
    rotate_left
    · simp -dsimp [go_sem, R0c, R0f, R0l, E2c, E2f, E2l, T0c, T0f, T0l, N0c, N0f, N0l, g1]
      exact no _ (Keep.refl _)
    cases ok2
    · simp -dsimp [go_sem, R0c, R0f, R0l, E2c, E2f, E2l, T0c, T0f, T0l, N0c, N0f, N0l, g1]
      exact no _ (Keep.refl _)
    cases ok3
    · simp -dsimp [go_sem, R0c, R0f, R0l, E2c, E2f, E2l, T0c, T0f, T0l, N0c, N0f, N0l, g1]
      exact no _ (Keep.refl _)
    by_cases g2 : n.kind = 2
    · simp -dsimp [go_sem, R0c, R0f, R0l, E2c, E2f, E2l, T0c, T0f, T0l, N0c, N0f, N0l, g1, g2]
      refine (state_Within X b m s hf e.to e.ino W7 h7).mono ?_; rintro _ w8 ⟨rfl, k8⟩; refine ret_intro ?_
      cases hw : withinS s e.to e.ino
      · simp -dsimp [go_sem, R0c, R0f, R0l, E2c, E2f, E2l, T0c, T0f, T0l, N0c, N0f, N0l, g1, g2]
        exact meet_intro () (by simp -dsimp [go_sem]) (by simp -dsimp [go_sem]) (by first | exact k8 | exact ⟨k8, rfl, rfl, g1, rfl, rfl, by simp⟩)
      · simp -dsimp [go_sem, R0c, R0f, R0l, E2c, E2f, E2l, T0c, T0f, T0l, N0c, N0f, N0l, g1, g2]
        exact no _ k8
    · simp -dsimp [go_sem, R0c, R0f, R0l, E2c, E2f, E2l, T0c, T0f, T0l, N0c, N0f, N0l, g1, g2]
      exact meet_intro () (by simp -dsimp [go_sem]) (by simp -dsimp [go_sem]) (by first | exact Keep.refl _ | exact ⟨Keep.refl _, rfl, rfl, g1, rfl, rfl, fun q => g2 q.1⟩)
  rintro _ w8 ⟨k8, rfl, rfl, g1, rfl, rfl, g2⟩
  rw [if_pos (show (true = true ∧ true = true ∧ f1 = e.ino ∧ true = true ∧ true = true ∧ ¬ (n.kind = 2 ∧ withinS s e.to e.ino = true)) from ⟨rfl, rfl, g1, rfl, rfl, g2⟩)]
  have h8 := h7.keep k8
  replace R0 := Step.blk k8 R0 (fun q => q); replace E2 := Step.blk k8 E2 (fun q => q); replace T0 := Step.blk k8 T0 (fun q => q); replace N0 := Step.blk k8 N0 (fun q => q)
  clear R0c R0f R0l E2c E2f E2l T0c T0f T0l N0c N0f N0l
  have R0c := blk_cell R0; have R0f := blk_free R0; have R0l := blk_lt R0; have E2c := blk_cell E2; have E2f := blk_free E2; have E2l := blk_lt E2; have T0c := blk_cell T0; have T0f := blk_free T0; have T0l := blk_lt T0; have N0c := blk_cell N0; have N0f := blk_free N0; have N0l := blk_lt N0
  simp -dsimp [go_sem, R0c, R0f, R0l, E2c, E2f, E2l, T0c, T0f, T0l, N0c, N0f, N0l]
  have kw8 := Keep.trans kw k8
  have hz : w.heap.size ≤ w1.heap.size ∧ w.heap.size ≤ w4.heap.size ∧ w.heap.size ≤ w6.heap.size := by
    have := k1.size; have := k2.size; have := k3.size; have := k4.size; have := k5.size; have := k6.size
    exact ⟨by omega, by omega, by omega⟩
  have hsb := h.size_b
  generalize hRR : (if (findN t.names e.other).2 = true then if (findN t.names e.other).1 = e.ino ∨ mayS s e.to e.other (findN t.names e.other).1 n.kind = false then none else some (moveS (offS s e.to e.other (findN t.names e.other).1) e n.kind) else some (moveS s e n.kind)) = RR
  obtain ⟨Q, hQ⟩ : ∃ Q : World → Prop, ∀ w', Q w' ↔ (w'.heap[w.heap.size]? = w8.heap[w.heap.size]? ∧ w'.heap[w1.heap.size]? = w8.heap[w1.heap.size]? ∧ w'.heap[w4.heap.size]? = w8.heap[w4.heap.size]? ∧ w'.heap[w6.heap.size]? = w8.heap[w6.heap.size]?) := ⟨_, fun _ => Iff.rfl⟩
  have hzs : w.heap.size < w1.heap.size ∧ w1.heap.size < w4.heap.size ∧ w4.heap.size < w6.heap.size ∧ w6.heap.size < w8.heap.size := by
    have := k1.size; have := k3.size; have := k4.size; have := k6.size; have := k8.size
    exact ⟨by omega, by omega, by omega, by omega⟩
  have h8' : StAt w8 (fun k => X k ∨ (w.heap.size ≤ k ∧ k < w8.heap.size)) b m s := h.wide kw8 (fun k q => q)
  refine join_intro (σ := St) (fun _ => []) (fun s1 w' => StAt w' (fun k => X k ∨ (w.heap.size ≤ k ∧ k < w8.heap.size)) b m s1 ∧ Step (fun k => k = b ∨ k = m) w w' ∧ Q w' ∧ RR = some (moveS s1 e n.kind) ∧
    Inos s1.L ∧ (∀ x ∈ s1.L, x.pages.length ≤ 2 ^ 20 ∧ x.names.length ≤ 2 ^ 20 - 1) ∧ isDir s1 e.dir = true ∧ isDir s1 e.to = true ∧ (getL s1.L e.ino).isSome = true ∧ (getL s1.L e.ino).elim True (fun x => x.kind = n.kind)) (by simp -dsimp [go_sem]; rfl) ?_ ?_
  · simp -dsimp [go_sem, R0c, R0f, R0l, E2c, E2f, E2l, T0c, T0f, T0l, N0c, N0f, N0l]
    have nt := ((n4.keep k5).keep k6).keep (Keep.trans k7 k8)
    refine (dirs_Find (fun _ => False) _ t.names e.other w8 ((nt.mo.all flat_entry).sl (fun _ _ q => q)) (by omega)).mono ?_; rintro _ wa ⟨rfl, ka⟩; refine ret_intro ?_
    have hdn : d.names ≠ [] := findN_ne (nm := e.name) (by rw [hF])
    have blks : ∀ w', Step (fun k => k = b ∨ k = m) w8 w' → Q w' := fun w' hs =>
      (hQ w').2 ⟨hs.block _ E2l (by omega), hs.block _ R0l (by omega), hs.block _ T0l (by omega), hs.block _ N0l (by omega)⟩
    have hkn : ∀ x, getL s.L e.ino = some x → x.kind = n.kind := fun x hx => by rw [← hN, dirN_some hx]
    generalize hG : findN t.names e.other = G at hRR ⊢
    obtain ⟨og, tk⟩ := G
    simp only at hRR ⊢
    cases tk
    · rw [if_neg (by simp)] at hRR
      simp -dsimp [go_sem, R0c, R0f, R0l, E2c, E2f, E2l, T0c, T0f, T0l, N0c, N0f, N0l]
      refine meet_intro s (by simp -dsimp [go_sem]) (by simp -dsimp [go_sem]) ⟨h8'.keep ka, (Keep.trans kw8 ka).any, blks wa ka.any, hRR.symm, hf.d, fun x hx => ⟨(hf.sz x hx).1, Nat.le_sub_one_of_lt (hn x hx)⟩, hdir, hto, hIs, ?_⟩
      cases hg : getL s.L e.ino with
      | none => trivial
      | some x => exact hkn x hg
    rw [if_pos rfl] at hRR
    have Ea := ka.blk E2 (fun q => q)
    have Ta := ka.blk T0 (fun q => q)
    have Na := ka.blk N0 (fun q => q)
    have Eac := blk_cell Ea; have Eaf := blk_free Ea; have Eal := blk_lt Ea; have Tac := blk_cell Ta; have Taf := blk_free Ta; have Tal := blk_lt Ta; have Nac := blk_cell Na; have Naf := blk_free Na; have Nal := blk_lt Na
    by_cases go : og = e.ino
    · rw [if_pos (.inl go)] at hRR
      subst hRR
      simp -dsimp [go_sem, R0c, R0f, R0l, E2c, E2f, E2l, T0c, T0f, T0l, N0c, N0f, N0l, Eac, Eaf, Eal, Tac, Taf, Tal, Nac, Naf, Nal, go]
      exact no _ (Keep.trans k8 ka)
    simp -dsimp [go_sem, R0c, R0f, R0l, E2c, E2f, E2l, T0c, T0f, T0l, N0c, N0f, N0l, Eac, Eaf, Eal, Tac, Taf, Tal, Nac, Naf, Nal, go]
    refine (state_may X b m s hf e.to e.other og n.kind wa (h8.keep ka)).mono ?_; rintro _ wb ⟨rfl, kb⟩; refine ret_intro ?_
    have kab := Keep.trans ka kb
    have hb := h8'.keep kab
    cases hmy : mayS s e.to e.other og n.kind
    · rw [if_pos (.inr hmy)] at hRR
      subst hRR
      simp -dsimp [go_sem]
      exact no _ (Keep.trans k8 kab)
    rw [if_neg (by rintro (q | q); exact go q; rw [hmy] at q; cases q)] at hRR
    have Eb := kb.blk Ea (fun q => q)
    have Ebc := blk_cell Eb; have Ebf := blk_free Eb; have Ebl := blk_lt Eb
    simp -dsimp [go_sem, Ebc, Ebf, Ebl]
    have hog := (mayS_dir hmy).2
    refine (state_off _ b m s hf e.to e.other og hto hog wb hb).mono ?_; rintro _ wc ⟨⟨v, rfl⟩, hc, sc⟩; refine ret_intro ?_
    simp -dsimp [go_sem]
    have sbc : Step (fun k => k = b ∨ k = m) w8 wc := Step.trans (O := fun k => k = b ∨ k = m) kab.any sc (fun i _ q => q)
    obtain ⟨hz1, hz2⟩ := sz_off hf (fun x hx => ⟨(hf.sz x hx).1, Nat.le_sub_one_of_lt (hn x hx)⟩) e.to e.other og
    have htn : t.names ≠ [] := findN_ne (nm := e.other) (by rw [hG])
    have hside : (dirN s og).kind ≠ 2 ∨ (dirN s og).names = [] := by
      unfold mayS at hmy
      simp only [Bool.and_eq_true, Bool.or_eq_true, decide_eq_true_eq] at hmy
      rcases hmy.2 with q | ⟨q, -⟩
      · left; rw [hmy.1.2, q]; decide
      · right; exact List.length_eq_zero_iff.1 q
    have hd9 : isDir (offS s e.to e.other og) e.dir = true := isDir_off hf hto hdir hog (by
      rcases hside with q | q
      · exact .inr q
      · left; rintro rfl; rw [hD] at q; exact hdn q)
    have ho9 : isDir (offS s e.to e.other og) e.to = true := isDir_off hf hto hto hog (by
      rcases hside with q | q
      · exact .inr q
      · left; rintro rfl; rw [hT] at q; exact htn q)
    have hg9 := getL_off hf (nm := e.other) (k := e.ino) hto hog (fun q => go q.symm)
    refine meet_intro (offS s e.to e.other og) (by simp -dsimp [go_sem]) (by simp -dsimp [go_sem]) ⟨hc, (kw8.any (O := fun k => k = b ∨ k = m)).trans sbc (fun i _ q => q), blks wc sbc, hRR.symm, hz1, hz2, hd9, ho9, ?_, ?_⟩
    · rw [hg9]; split
      · rfl
      · exact hIs
    · rw [hg9]; split
      · rename_i q
        show (dirN s e.to).kind = n.kind
        rw [← hN, q]
      · cases hg : getL s.L e.ino with
        | none => trivial
        | some x => exact hkn x hg
  · rintro s1 w9 ⟨h9, s9, q9, hR, i9, z9, d9, o9, g9, y9⟩
    obtain ⟨e9, r9, t9, n9⟩ := (hQ w9).1 q9
    rw [← e9] at E2
    rw [← r9] at R0
    rw [← t9] at T0
    rw [← n9] at N0
    subst hR
    clear R0c R0f R0l E2c E2f E2l T0c T0f T0l N0c N0f N0l
    have R0c := blk_cell R0; have R0f := blk_free R0; have R0l := blk_lt R0; have E2c := blk_cell E2; have E2f := blk_free E2; have E2l := blk_lt E2; have T0c := blk_cell T0; have T0f := blk_free T0; have T0l := blk_lt T0; have N0c := blk_cell N0; have N0f := blk_free N0; have N0l := blk_lt N0
    simp -dsimp [go_sem, R0c, R0f, R0l, E2c, E2f, E2l, T0c, T0f, T0l, N0c, N0f, N0l]
    have z20 : ∀ x ∈ s1.L, x.pages.length ≤ 2 ^ 20 ∧ x.names.length ≤ 2 ^ 20 := fun x hx => ⟨(z9 x hx).1, Nat.le_trans (z9 x hx).2 (by decide)⟩
    have hsz9 := s9.size
    refine (state_dir _ b m s1 i9 e.dir z20 w9 h9).mono ?_; rintro _ wA ⟨pA, qA, rfl, nA, kA⟩; refine ret_intro ?_
    have hA := h9.keep kA
    have aok := hA.okN e.dir
    have hdi := dirN_ino (show ((getL s1.L e.dir).isSome && decide ((dirN s1 e.dir).kind = 2)) = true from d9)
    have asz : (dirN s1 e.dir).pages.length ≤ 2 ^ 20 ∧ (dirN s1 e.dir).names.length ≤ 2 ^ 20 - 1 := by
      obtain ⟨x, hx, -⟩ := isDir_iff.1 d9
      rw [dirN_some hx]; exact z9 x (getL_some hx).1
    have hdk : (dirN s1 e.dir).kind = 2 := by
      obtain ⟨x, hx, q⟩ := isDir_iff.1 d9
      rw [dirN_some hx]; exact q
    unfold moveS
    simp only [show (getL s1.L e.dir).getD node0 = dirN s1 e.dir from rfl] at nA aok ⊢
    generalize hda : dirN s1 e.dir = da at nA aok hdi asz hdk ⊢
    generalize ((getL s1.L e.dir).isSome && decide (da.kind = 2)) = okA
    obtain ⟨paA, pcA, maA, mcA, rfl, rfl, -⟩ := nA.slices
    obtain ⟨wB, hstB, RB, sB⟩ := store_node (kA.blk R0 (fun q => q)) da paA da.pages.length pcA maA da.names.length mcA
    have lA := kA.size
    have lB := sB.size
    have l9 := N0l
    have TA : Step (fun k => k = m ∨ (w.heap.size ≤ k ∧ k < w8.heap.size)) w9 wB := (Keep.any kA).trans sB (fun i _ q => .inr (by omega))
    have EB := sB.blk (kA.blk E2 (fun q => q)) (by omega)
    have nB := nA.step sB (fun i q => by omega)
    have hB := hA.step sB (fun k q => .inr (by omega)) (by omega) (by omega)
    have HB := hB.hb
    clear R0c R0f R0l E2c E2f E2l T0c T0f T0l N0c N0f N0l
    unfold Node.enc at hstB RB ⊢
    have EBc := blk_cell EB; have EBf := blk_free EB; have EBl := blk_lt EB; have RBc := blk_cell RB; have RBf := blk_free RB; have RBl := blk_lt RB; have HBc := blk_cell HB; have HBf := blk_free HB; have HBl := blk_lt HB
    simp -dsimp [go_sem, EBc, EBf, EBl, RBc, RBf, RBl, HBc, HBf, HBl, storeF_of hstB]
    refine (dirs_Drop (fun _ => False) _ da.names e.name wB ((nB.mo.all flat_entry).sl (fun _ _ q => q)) (by omega)).mono ?_; rintro _ wC ⟨v, rfl, ov, kC, bv⟩; refine ret_intro ?_
    have dle : (dropE da.names e.name).1.length ≤ da.names.length := List.length_filter_le _ _
    generalize dropE da.names e.name = D at ov dle ⊢
    obtain ⟨D1, D2⟩ := D
    simp only at ov dle ⊢
    have hC := hB.keep kC
    have nC := nB.keep kC
    have lC := kC.size
    have EC := kC.blk EB (fun q => q)
    have RC := kC.blk RB (fun q => q)
    have HC := hC.hb
    clear EBc EBf EBl RBc RBf RBl HBc HBf HBl
    have ECc := blk_cell EC; have ECf := blk_free EC; have ECl := blk_lt EC; have RCc := blk_cell RC; have RCf := blk_free RC; have RCl := blk_lt RC; have HCc := blk_cell HC; have HCf := blk_free HC; have HCl := blk_lt HC
    obtain ⟨va, vc, rfl, -⟩ := ov.slice
    simp -dsimp [go_sem, ECc, ECf, ECl, RCc, RCf, RCl, HCc, HCf, HCl]
    generalize hqD : (World.setCell _ _ _).drew = wD
    have sD : Step (fun k => k = w1.heap.size) wC wD := by rw [← hqD]; exact ((Step.refl (fun k => k = w1.heap.size) wC).set (.inl rfl) _).drew
    clear hqD
    have lD := sD.size
    have hD' := hC.step sD (fun k q => .inr (by omega)) (by omega) (by omega)
    have ND : NNew w9.heap.size wD { da with names := D1 } (.slice paA da.pages.length pcA) (.slice va D1.length vc) := by
      refine ⟨⟨nC.po.flat flat_int sD (fun g hg q => ?_), ov.flat flat_entry sD (fun g hg q => ?_), fun g hg hg2 => ?_⟩, fun g hg => ?_, fun g hg => ?_⟩
      · have := nA.pb g hg; omega
      · have := bv g hg; omega
      · have := nB.po.lt hg; have := bv g hg2; omega
      · have := nA.pb g hg; omega
      · have := bv g hg; omega
    have rD := ND.rep (X := fun k => X k ∨ (w.heap.size ≤ k ∧ k < w8.heap.size)) (by exact aok) (fun g hg hx => by
      rcases hx with q | q
      · have := h.xl g q; omega
      · have := h9.xl g (.inr q); omega)
    obtain ⟨wE, huE, hE, sE⟩ := hD'.upd rD hdi
    refine upd_intro huE ?_
    have lE := sE.size
    simp -dsimp [go_sem]
    have TE : Step (fun k => k = m ∨ (w.heap.size ≤ k ∧ k < w8.heap.size)) w9 wE := ((TA.then kC).trans sD (fun i _ q => .inr (by omega))).trans sE (fun i _ q => .inl q)
    have EE := sE.blk (sD.blk EC (by omega)) (by omega)
    have T9 := sE.blk (sD.blk (kC.blk (sB.blk (kA.blk T0 (fun q => q)) (by omega)) (fun q => q)) (by omega)) (by omega)
    have N9 := sE.blk (sD.blk (kC.blk (sB.blk (kA.blk N0 (fun q => q)) (by omega)) (fun q => q)) (by omega)) (by omega)
    have i2 : Inos (setL s1.L { da with names := D1 }) := inos_setL i9 _
    have z2 : ∀ x ∈ setL s1.L { da with names := D1 }, x.pages.length ≤ 2 ^ 20 ∧ x.names.length ≤ 2 ^ 20 - 1 := fun x hx => by
      rcases mem_setL.1 hx with rfl | ⟨q, -⟩
      · exact ⟨asz.1, Nat.le_trans dle asz.2⟩
      · exact z9 x q
    have t2 : isDir ⟨setL s1.L { da with names := D1 }, s1.last⟩ e.to = true := by
      obtain ⟨x, q1, q2⟩ := isDir_iff.1 o9
      rw [isDir_iff]
      show ∃ y, getL (setL s1.L { da with names := D1 }) e.to = some y ∧ _
      rw [getL_set i9]
      split
      · exact ⟨_, rfl, hdk⟩
      · exact ⟨x, q1, q2⟩
    have g2' : (getL (setL s1.L { da with names := D1 }) e.ino).isSome = true := getL_setL g9
    generalize setL s1.L { da with names := D1 } = L2 at hE i2 z2 t2 g2' ⊢
    have z20' : ∀ x ∈ L2, x.pages.length ≤ 2 ^ 20 ∧ x.names.length ≤ 2 ^ 20 := fun x hx => ⟨(z2 x hx).1, Nat.le_trans (z2 x hx).2 (by decide)⟩
    clear RCc RCf RCl HCc HCf HCl ECc ECf ECl
    have HE := hE.hb
    have EEc := blk_cell EE; have EEf := blk_free EE; have EEl := blk_lt EE; have HEc := blk_cell HE; have HEf := blk_free HE; have HEl := blk_lt HE
    try simp -dsimp [go_sem, EEc, EEf, EEl, HEc, HEf, HEl]
    refine (state_dir _ b m ⟨L2, s1.last⟩ i2 e.to z20' wE hE).mono ?_; rintro _ wF ⟨pF, qF, rfl, nF, kF⟩; refine ret_intro ?_
    have hF' := hE.keep kF
    have tok := hF'.okN e.to
    have hti := dirN_ino (s := ⟨L2, s1.last⟩) (show ((getL L2 e.to).isSome && decide ((dirN ⟨L2, s1.last⟩ e.to).kind = 2)) = true from t2)
    have tsz2 : (dirN ⟨L2, s1.last⟩ e.to).pages.length ≤ 2 ^ 20 ∧ (dirN ⟨L2, s1.last⟩ e.to).names.length ≤ 2 ^ 20 - 1 := by
      obtain ⟨x, hx, -⟩ := isDir_iff.1 t2
      rw [dirN_some hx]; exact z2 x (getL_some hx).1
    simp only [show (getL L2 e.to).getD node0 = dirN ⟨L2, s1.last⟩ e.to from rfl] at nF tok hti ⊢
    generalize dirN ⟨L2, s1.last⟩ e.to = dt at nF tok hti tsz2 ⊢
    generalize ((getL L2 e.to).isSome && decide (dt.kind = 2)) = okF
    obtain ⟨paF, pcF, maF, mcF, rfl, rfl, -⟩ := nF.slices
    obtain ⟨wG, hstG, TG, sG⟩ := store_node (kF.blk T9 (fun q => q)) dt paF dt.pages.length pcF maF dt.names.length mcF
    have lF := kF.size
    have lG := sG.size
    have EG := sG.blk (kF.blk EE (fun q => q)) (by omega)
    have nG := nF.step sG (fun i q => by omega)
    have hG := hF'.step sG (fun k q => .inr (by omega)) (by omega) (by omega)
    have HG := hG.hb
    clear EEc EEf EEl HEc HEf HEl
    unfold Node.enc at hstG TG ⊢
    have EGc := blk_cell EG; have EGf := blk_free EG; have EGl := blk_lt EG; have TGc := blk_cell TG; have TGf := blk_free TG; have TGl := blk_lt TG; have HGc := blk_cell HG; have HGf := blk_free HG; have HGl := blk_lt HG
    simp -dsimp [go_sem, EGc, EGf, EGl, TGc, TGf, TGl, HGc, HGf, HGl, storeF_of hstG]
    refine (dirs_Put (fun _ => False) _ dt.names e.other e.ino o2 wG ((nG.mo.all flat_entry).sl (fun _ _ q => q)) (by omega)).mono ?_; rintro _ wH ⟨vH, rfl, oH, kH, bH⟩; refine ret_intro ?_
    have ple : (putE dt.names e.other e.ino).1.length ≤ dt.names.length + 1 := by
      unfold putE
      split
      · simp
      · have : ∀ l : List Entry, (insE l e.other e.ino).length = l.length + 1 := fun l => by
          induction l with
          | nil => simp [insE]
          | cons y r ih => unfold insE; split <;> simp [ih]
        rw [this]; exact Nat.le_refl _
    generalize putE dt.names e.other e.ino = Q1 at oH ple ⊢
    obtain ⟨P1, P2⟩ := Q1
    simp only at oH ple ⊢
    have hH := hG.keep kH
    have nH := nG.keep kH
    have lH := kH.size
    have EH := kH.blk EG (fun q => q)
    have TH := kH.blk TG (fun q => q)
    have HH := hH.hb
    clear EGc EGf EGl TGc TGf TGl HGc HGf HGl
    have EHc := blk_cell EH; have EHf := blk_free EH; have EHl := blk_lt EH; have THc := blk_cell TH; have THf := blk_free TH; have THl := blk_lt TH; have HHc := blk_cell HH; have HHf := blk_free HH; have HHl := blk_lt HH
    obtain ⟨vaH, vcH, rfl, -⟩ := oH.slice
    simp -dsimp [go_sem, EHc, EHf, EHl, THc, THf, THl, HHc, HHf, HHl]
    generalize hqI : (World.setCell _ _ _).drew = wI
    have sI : Step (fun k => k = w4.heap.size) wH wI := by rw [← hqI]; exact ((Step.refl (fun k => k = w4.heap.size) wH).set (.inl rfl) _).drew
    clear hqI
    have lI := sI.size
    have hI' := hH.step sI (fun k q => .inr (by omega)) (by omega) (by omega)
    have NI : NNew wE.heap.size wI { dt with names := P1 } (.slice paF dt.pages.length pcF) (.slice vaH P1.length vcH) := by
      refine ⟨⟨nH.po.flat flat_int sI (fun g hg q => ?_), oH.flat flat_entry sI (fun g hg q => ?_), fun g hg hg2 => ?_⟩, fun g hg => ?_, fun g hg => ?_⟩
      · have := nF.pb g hg; omega
      · have := bH g hg; omega
      · have := nG.po.lt hg; have := bH g hg2; omega
      · have := nF.pb g hg; omega
      · have := bH g hg; omega
    have rI := NI.rep (X := fun k => X k ∨ (w.heap.size ≤ k ∧ k < w8.heap.size)) (by exact tok) (fun g hg hx => hE.xl g hx)
    obtain ⟨wJ, huJ, hJ, sJ⟩ := hI'.upd rI hti
    refine upd_intro huJ ?_
    have lJ := sJ.size
    simp -dsimp [go_sem]
    have TJ : Step (fun k => k = m ∨ (w.heap.size ≤ k ∧ k < w8.heap.size)) w9 wJ := ((((TE.then kF).trans sG (fun i _ q => .inr (by omega))).then kH).trans sI (fun i _ q => .inr (by omega))).trans sJ (fun i _ q => .inl q)
    have EJ := sJ.blk (sI.blk EH (by omega)) (by omega)
    have NJ := sJ.blk (sI.blk (kH.blk (sG.blk (kF.blk N9 (fun q => q)) (by omega)) (fun q => q)) (by omega)) (by omega)
    have i3 : Inos (setL L2 { dt with names := P1 }) := inos_setL i2 _
    have z3 : ∀ x ∈ setL L2 { dt with names := P1 }, x.pages.length ≤ 2 ^ 20 ∧ x.names.length ≤ 2 ^ 20 := fun x hx => by
      rcases mem_setL.1 hx with rfl | ⟨q, -⟩
      · exact ⟨tsz2.1, by show P1.length ≤ _; omega⟩
      · exact z20' x q
    have g3 : (getL (setL L2 { dt with names := P1 }) e.ino).isSome = true := getL_setL g2'
    generalize setL L2 { dt with names := P1 } = L3 at hJ i3 z3 g3 ⊢
    clear EHc EHf EHl THc THf THl HHc HHf HHl
    have HJ := hJ.hb
    have EJc := blk_cell EJ; have EJf := blk_free EJ; have EJl := blk_lt EJ; have HJc := blk_cell HJ; have HJf := blk_free HJ; have HJl := blk_lt HJ; have NJc := blk_cell NJ; have NJf := blk_free NJ; have NJl := blk_lt NJ
    have fin : ∀ w', Step (fun k => k = m ∨ (w.heap.size ≤ k ∧ k < w8.heap.size)) w9 w' → Step (fun k => k = b ∨ k = m) w w' := fun w' hs =>
      s9.trans hs (fun i hi q => by rcases q with q | q; exact .inr q; omega)
    by_cases hk2 : n.kind = 2
    · rw [if_pos hk2]
      simp -dsimp [go_sem, EJc, EJf, EJl, HJc, HJf, HJl, NJc, NJf, NJl, hk2]
      refine (state_Get _ b m ⟨L3, s1.last⟩ i3 e.ino z3 wJ hJ).mono ?_; rintro _ wK ⟨pK, qK, rfl, nK, kK⟩; refine ret_intro ?_
      have hK := hJ.keep kK
      have nok := hK.okN e.ino
      have hni : (dirN ⟨L3, s1.last⟩ e.ino).ino = e.ino := by
        obtain ⟨x, hx⟩ := Option.isSome_iff_exists.1 g3
        rw [dirN_some (s := ⟨L3, s1.last⟩) hx]; exact (getL_some hx).2
      simp only [show (getL L3 e.ino).getD node0 = dirN ⟨L3, s1.last⟩ e.ino from rfl] at nK nok ⊢
      generalize dirN ⟨L3, s1.last⟩ e.ino = nn at nK nok hni ⊢
      generalize (getL L3 e.ino).isSome = okK
      obtain ⟨paK, pcK, maK, mcK, rfl, rfl, -⟩ := nK.slices
      obtain ⟨wL, hstL, NL, sL⟩ := store_node (kK.blk NJ (fun q => q)) nn paK nn.pages.length pcK maK nn.names.length mcK
      have lK := kK.size
      have lL := sL.size
      have EL := sL.blk (kK.blk EJ (fun q => q)) (by omega)
      have nL := nK.step sL (fun i q => by omega)
      have hL := hK.step sL (fun k q => .inr (by omega)) (by omega) (by omega)
      have HL := hL.hb
      clear EJc EJf EJl NJc NJf NJl HJc HJf HJl
      unfold Node.enc at hstL NL ⊢
      have ELc := blk_cell EL; have ELf := blk_free EL; have ELl := blk_lt EL; have NLc := blk_cell NL; have NLf := blk_free NL; have NLl := blk_lt NL; have HLc := blk_cell HL; have HLf := blk_free HL; have HLl := blk_lt HL
      simp -dsimp [go_sem, ELc, ELf, ELl, NLc, NLf, NLl, HLc, HLf, HLl, storeF_of hstL]
      generalize hqM : (World.setCell _ _ _).drew = wM
      have sM : Step (fun k => k = w6.heap.size) wL wM := by rw [← hqM]; exact ((Step.refl (fun k => k = w6.heap.size) wL).set (.inl rfl) _).drew
      clear hqM
      have lM := sM.size
      have hM := hL.step sM (fun k q => .inr (by omega)) (by omega) (by omega)
      have nM := nL.step sM (fun i q => by omega)
      have NM : NNew wJ.heap.size wM { nn with up := e.to } (.slice paK nn.pages.length pcK) (.slice maK nn.names.length mcK) := ⟨⟨nM.po, nM.mo, nM.ne⟩, nM.pb, nM.mb⟩
      have rM := NM.rep (X := fun k => X k ∨ (w.heap.size ≤ k ∧ k < w8.heap.size)) ⟨nok.1, nok.2.1, nok.2.2.1, nok.2.2.2.1, by first | exact o4 | exact o3⟩ (fun g hg hx => hJ.xl g hx)
      obtain ⟨wN, huN, hN', sN⟩ := hM.upd rM hni
      refine upd_intro huN ?_
      simp -dsimp [go_sem]
      refine ⟨hN'.mono h.xb h.xm (fun k q => .inl q), fin _ ((((TJ.then kK).trans sL (fun i _ q => .inr (by omega))).trans sM (fun i _ q => .inr (by omega))).trans sN (fun i _ q => .inl q))⟩
    · rw [if_neg hk2]
      simp -dsimp [go_sem, EJc, EJf, EJl, HJc, HJf, HJl, NJc, NJf, NJl, hk2]
      exact ⟨hJ.mono h.xb h.xm (fun k q => .inl q), fin _ TJ⟩
end Go.Proofs.YtdfjfagljngciaaGreat
