/- Base: what a call may change, what values read as: the words in which contracts are said; no program in sight. -/
import Derived.Test.YtdfjfagljngciaaGreatRxm
set_option linter.all false
namespace Go.Proofs.YtdfjfagljngciaaGreat
open Go.RowKit Rx


theorem Step.set {O : Nat → Prop} {a w : World} (h : Step O a w) {p : Addr} (hp : O p.block ∨ a.heap.size ≤ p.block) (u : Value) : Step O a (w.setCell p u) :=
  h.trans (O' := fun k => k = p.block) ⟨rfl, rfl, rfl, by simp [World.setCell], fun k _ hk => Below.heap_setCell _ _ _ _ hk⟩ (fun i hi q => by subst q; exact hp.resolve_right (by omega))
theorem Step.grown {O : Nat → Prop} {a w w' : World} {row : Option Nat} (h : Step O a w) (hg : w.grownBy w' row) (hr : ∀ k, row = some k → O k ∨ a.heap.size ≤ k) : Step O a w' :=
  h.trans (O' := fun k => row = some k) ⟨hg.os, hg.tape, hg.output, hg.size, fun k hk hn => hg.block k hk (fun q => hn q.symm)⟩ (fun i hi q => (hr i q).resolve_right (by omega))
theorem Step.below {w w' : World} (h : Keep w w') : Below w.heap.size w w' := ⟨h.os, h.tape, h.output, h.size, fun k hk => h.block k hk (fun q => q)⟩
theorem Step.of_below {w w' : World} (h : Below w.heap.size w w') : Keep w w' := ⟨h.os, h.tape, h.output, h.size, fun k hk _ => h.block k hk⟩
theorem Step.cell {O : Nat → Prop} {w w' : World} (h : Step O w w') {a : Addr} {v : Value} (hc : w.cell? a = some v) (hn : ¬ O a.block) : w'.cell? a = some v :=
  (World.cell?_of_block (w := w) (h.block a.block (World.block_lt_of_cell? w a hc) hn)).trans hc
theorem Step.agree {O : Nat → Prop} {w0 w w' : World} (h : Step O w w') (hag : Agree w0 w) (hn : ∀ b o, w0.heap[b]? = some o → isHole o = false → ¬ O b) : Agree w0 w' :=
  fun b o hb ho => h.blk (hag b o hb ho) (hn b o hb ho)
theorem Keep.agree {w0 w w' : World} (h : Keep w w') (hag : Agree w0 w) : Agree w0 w' := Step.agree h hag (fun _ _ _ _ q => q)

theorem Keep.refl (w : World) : Keep w w := Step.refl _ w
theorem Keep.trans {a b c : World} (h : Keep a b) (k : Keep b c) : Keep a c := Step.then h k
theorem keep_alloc (w : World) (o : Obj) : Keep w (w.alloc o) := (Keep.refl w).alloc o
theorem keep_drew (w : World) : Keep w w.drew := (Keep.refl w).drew
theorem blk_lt {w : World} {b : Nat} {o : Obj} (h : w.heap[b]? = some o) : b < w.heap.size := (Array.getElem?_eq_some_iff.1 h).1
theorem blk_alloc {w : World} {b : Nat} {o : Obj} (h : w.heap[b]? = some o) (o' : Obj) : (w.alloc o').heap[b]? = some o := (Below.heap_alloc w o' b (blk_lt h)).trans h
theorem blk_cell {w : World} {b : Nat} {cs : Array Value} {t : TypeId} (h : w.heap[b]? = some (.cells cs t (0, 0))) (i : Nat) : w.cell? ⟨b, i, none⟩ = cs[i]? := cell_of_row w b i cs t (0, 0) h
theorem blk_free {w : World} {b : Nat} {cs : Array Value} {t : TypeId} (h : w.heap[b]? = some (.cells cs t (0, 0))) (i : Nat) : w.frozen? ⟨b, i, none⟩ = false := frozen_of_row w b i cs t h
theorem blk_set {w : World} {b : Nat} {cs : Array Value} {t : TypeId} (h : w.heap[b]? = some (.cells cs t (0, 0))) (i : Nat) (u : Value) :
    (w.setCell ⟨b, i, none⟩ u).heap[b]? = some (.cells (cs.setIfInBounds i u) t (0, 0)) := heap_setCell_same w b i cs t u h
theorem blk_far {w : World} {b : Nat} {o : Obj} (h : w.heap[b]? = some o) {p : Addr} (hp : b ≠ p.block) (u : Value) : (w.setCell p u).heap[b]? = some o := (Below.heap_setCell w p u b hp).trans h

theorem agree_alloc {w0 w : World} (h : Agree w0 w) (o : Obj) : Agree w0 (w.alloc o) := fun b o' hb ho => blk_alloc (h b o' hb ho) o
theorem agree_drew {w0 w : World} (h : Agree w0 w) : Agree w0 w.drew := h

/-- Records of n cells each, one behind the other. -/
theorem rows_get {α : Type} (f : α → List Value) (n : Nat) (hn : ∀ x, (f x).length = n) (h0 : 0 < n) : ∀ (l : List α) (k : Nat), (l.flatMap f)[k]? = (l[k / n]?).bind (fun x => (f x)[k % n]?)
  | [], k => by simp
  | x :: r, k => by
    rw [List.flatMap_cons]
    by_cases hk : k < n
    · rw [List.getElem?_append_left (by rw [hn]; exact hk), Nat.div_eq_of_lt hk, Nat.mod_eq_of_lt hk]
      simp
    · rw [List.getElem?_append_right (by rw [hn]; omega), hn, rows_get f n hn h0 r (k - n)]
      have e1 : k / n = (k - n) / n + 1 := by
        have := Nat.sub_add_cancel (Nat.le_of_not_lt hk)
        conv => lhs; rw [← this, Nat.add_div_right _ h0]
      have e2 : (k - n) % n = k % n := by
        have := Nat.sub_add_cancel (Nat.le_of_not_lt hk)
        conv => rhs; rw [← this, Nat.add_mod_right]
      rw [e1, e2]; simp
theorem rows_length {α : Type} (f : α → List Value) (n : Nat) (hn : ∀ x, (f x).length = n) (l : List α) : (l.flatMap f).length = l.length * n := by
  induction l with
  | nil => simp
  | cons x r ih => rw [List.flatMap_cons, List.length_append, hn, ih, List.length_cons, Nat.add_mul]; omega
theorem rows_at {α : Type} (f : α → List Value) (n : Nat) (hn : ∀ x, (f x).length = n) (h0 : 0 < n) (l : List α) (i j : Nat) (hj : j < n) : (l.flatMap f)[i * n + j]? = (l[i]?).bind (fun x => (f x)[j]?) := by
  rw [rows_get f n hn h0, show (i * n + j) / n = i from by rw [Nat.add_comm, Nat.add_mul_div_right _ _ h0, Nat.div_eq_of_lt hj, Nat.zero_add],
    show (i * n + j) % n = j from by rw [Nat.add_comm, Nat.add_mul_mod_self_right, Nat.mod_eq_of_lt hj]]

theorem rows_extract {α : Type} (f : α → List Value) (n : Nat) (hn : ∀ x, (f x).length = n) (h0 : 0 < n) {l : List α} {i : Nat} {x : α} (hx : l[i]? = some x) : (l.flatMap f).toArray.extract (i * n) (i * n + n) = (f x).toArray := by
  apply Array.ext_getElem?
  intro j
  have hi := (List.getElem?_eq_some_iff.1 hx).1
  have hsz : i * n + n ≤ (l.flatMap f).length := by
    rw [rows_length f n hn, ← Nat.succ_mul]; exact Nat.mul_le_mul_right _ hi
  rw [Array.getElem?_extract]
  simp only [List.size_toArray, List.getElem?_toArray]
  rw [Nat.min_eq_left hsz, Nat.add_sub_cancel_left]
  by_cases hj : j < n
  · rw [if_pos hj, rows_at f n hn h0 l i j hj, hx]; rfl
  · rw [if_neg hj, List.getElem?_eq_none (by rw [hn]; omega)]
def aggB (P : Program) (e : TypeId) : Bool := match P.underlying e with
  | some (.struct _) => true
  | some (.array _ _) => true
  | _ => false
theorem run_aggB {P : Program} {e : TypeId} (h : aggB P e = true) (w : World) : (isAgg e).run P w = .ok true w := by
  unfold aggB at h
  split at h
  · rename_i hu; simp [isAgg, run_underlying hu]
  · rename_i hu; simp [isAgg, run_underlying hu]
  · cases h
/-- What an append must know of the type of what is appended. -/
def recB (P : Program) (e : TypeId) (size bytes : Nat) : Bool := match P.info? e with
  | some i => match i.zero with
    | some z => i.size == size && i.bytes == bytes && z.cells.size == size && decide (0 < size)
    | none => false
  | none => false
/-- A record of an array of records that is a value. -/
theorem run_index_rows {P : Program} {α : Type} (f : α → List Value) (n : Nat) (hn : ∀ x, (f x).length = n) (h0 : 0 < n) (t e : TypeId) (len : Nat) (hu : P.underlying t = some (.array len e)) (he : aggB P e = true)
    (hs : (P.info? e).map (·.size) = some n) {l : List α} {i : Nat} {x : α} (hx : l[i]? = some x) (hi : i < len) (w : World) :
    (Instr.index t (.agg (l.flatMap f).toArray) (.int .i64 i)).run P w = .ok (.agg (f x).toArray) w := by
  have hsz : (sizeOf e).run P w = .ok n w := by
    cases hq : P.info? e with
    | none => simp [hq] at hs
    | some inf => simp [sizeOf, typeInfo, hq] at hs ⊢; exact hs
  have ha := run_aggB he w
  have hx' := congrArg Array.toList (rows_extract f n hn h0 hx)
  simp only [List.extract_toArray, List.extract_eq_take_drop, Nat.add_sub_cancel_left] at hx'
  simp [Instr.index, asIntOf, Sem.run_bind, run_underlying hu, hsz, part, ha, hi, hx']

/-- An append to a row of one's own. -/
theorem app_own {P : Program} {w : World} {k : Value → World → Prop} {tk : Tag k} (base : Nat) {t ty e : TypeId} (size bytes : Nat) (ht : P.underlying t = some (.slice e)) (hi : recB P e size bytes = true)
    {v : Value} {n : Nat} {xs : List Value} (hown : w.ownsRow base e size v n xs)
    {a : Addr} {m c : Nat} (news : List Value) (hl : news.length = m * size) (hnews : ∀ j u, news[j]? = some u → w.cell? (a.add j) = some u) (h1 : ∀ u ∈ news, u.oneCell' = true)
    (h63 : n + m ≤ maxLen) (hbytes : (n + m) * bytes ≤ 140737488355328) (hbase : base ≤ w.heap.size)
    (h : ∀ v' w', w'.ownsRow base e size v' (n + m) (xs ++ news) → w.grownBy w' v.ownBlock → k v' w') : appF P #[t, t] ty (Shut k tk) v (.slice (some a) m c) w := by
  unfold recB at hi
  split at hi
  · rename_i i hi'
    split at hi
    · rename_i z hz
      simp only [Bool.and_eq_true, beq_iff_eq, decide_eq_true_eq] at hi
      obtain ⟨v', w', hr, h2, h3, _⟩ := run_append_own (P := P) w base t ty e i z size bytes ht hi' hz hi.1.1.1 hi.1.1.2 hi.1.2 hi.2 v n xs hown a m c news hl hnews h1 h63 hbytes hbase
      exact appF_intro hr (h v' w' h2 h3)
    · cases hi
  · cases hi
/-- What a row of one's own looks like. -/
theorem own_slice {w : World} {base : Nat} {e : TypeId} {size : Nat} {v : Value} {n : Nat} {xs : List Value} (h : w.ownsRow base e size v n xs) :
    ∃ a c, v = .slice a n c ∧ n ≤ c ∧ (0 < n → ∃ g, a = some ⟨g, 0, none⟩ ∧ base ≤ g ∧ g < w.heap.size ∧ ∀ j u, xs[j]? = some u → w.cell? ⟨g, j, none⟩ = some u) := by
  rcases h.2 with ⟨rfl, rfl⟩ | ⟨g, cap, cur, rfl, hb, hg, hc, _, _, ht⟩
  · exact ⟨_, _, rfl, Nat.le_refl _, fun q => absurd q (by omega)⟩
  · refine ⟨_, _, rfl, hc, fun _ => ⟨g, rfl, hb, blk_lt hg, fun j u hu => ?_⟩⟩
    rw [blk_cell hg]
    rw [← ht, List.getElem?_take] at hu
    split at hu
    · simpa using hu
    · cases hu
end Go.Proofs.YtdfjfagljngciaaGreat
