/- Slices of records, one's own and others': their cells, all of them at once; what is appended to them; clones. Slices of records of one's own: an element is read and written over; what 'copy' and 'clear' do. -/
import Derived.Test.YtdfjfagljngciaaGreatRep
import Derived.Laws.IdiomCopy
import Derived.Laws.Append
set_option linter.all false
namespace Go.Proofs.YtdfjfagljngciaaGreat
open Go.ChangeShapes Go.WideShapes Go.ChangeAt Go.RowKit Go.Deep Rx

/-- All cells of a record are whole. -/
def OneC {α : Type} (r : Rep α) : Prop := ∀ {X : Nat → Prop} {w : World} {x : α} {cs : List Value}, r.R X w x cs → ∀ u ∈ cs, u.oneCell' = true
theorem one_int : OneC rInt := by rintro X w x cs ⟨rfl, -⟩ u hu; simp at hu; subst hu; rfl
theorem one_str : OneC rStr := by rintro X w x cs rfl u hu; simp at hu; subst hu; rfl
theorem one_byte : OneC rByte := by rintro X w x cs rfl u hu; simp at hu; subst hu; rfl
theorem one_word : OneC rWord := by rintro X w x cs rfl u hu; simp at hu; subst hu; rfl

/-- xs are the cells of l. -/
def Cs {α : Type} (r : Rep α) (X : Nat → Prop) (w : World) : List α → List Value → Prop
  | [], xs => xs = []
  | x :: l, xs => ∃ cs ys, xs = cs ++ ys ∧ r.R X w x cs ∧ Cs r X w l ys
section
variable {α : Type} {r : Rep α} {X Y O : Nat → Prop} {w w' : World} {v : Value} {l l' : List α} {xs xs' : List Value}
theorem Cs.nil : Cs r X w [] [] := rfl
theorem Cs.one {x : α} {cs : List Value} (h : r.R X w x cs) : Cs r X w [x] cs := ⟨cs, [], by simp, h, rfl⟩
theorem Cs.cons {x : α} {cs : List Value} (h : r.R X w x cs) (h' : Cs r X w l xs) : Cs r X w (x :: l) (cs ++ xs) := ⟨cs, xs, rfl, h, h'⟩
theorem Cs.uncons {x : α} (h : Cs r X w (x :: l) xs) : ∃ cs xs', xs = cs ++ xs' ∧ r.R X w x cs ∧ Cs r X w l xs' := h
theorem Cs.append : ∀ {l : List α} {xs : List Value}, Cs r X w l xs → Cs r X w l' xs' → Cs r X w (l ++ l') (xs ++ xs')
  | [], xs, h, h' => by
    cases h; simpa using h'
  | x :: l, xs, h, h' => by
    obtain ⟨cs, ys, rfl, h1, h2⟩ := h.uncons
    rw [List.cons_append, List.append_assoc]
    exact Cs.cons h1 (Cs.append h2 h')
theorem Cs.length : ∀ {l : List α} {xs : List Value}, Cs r X w l xs → xs.length = l.length * r.n
  | [], xs, h => by
    cases h; simp
  | x :: l, xs, h => by
    obtain ⟨cs, ys, rfl, h1, h2⟩ := h.uncons
    rw [List.length_append, r.len h1, h2.length, List.length_cons, Nat.add_mul]; omega
theorem Cs.step : ∀ {l : List α} {xs : List Value}, Cs r X w l xs → Step O w w' → (∀ k, O k → X k) → Cs r X w' l xs
  | [], xs, h, _, _ => by
    cases h; exact Cs.nil
  | x :: l, xs, h, hs, ho => by
    obtain ⟨cs, ys, rfl, h1, h2⟩ := h.uncons
    exact Cs.cons (r.step h1 hs ho) (h2.step hs ho)
theorem Cs.keep (h : Cs r X w l xs) (hs : Keep w w') : Cs r X w' l xs := h.step hs (fun _ q => q.elim)
theorem Cs.mono : ∀ {l : List α} {xs : List Value}, Cs r X w l xs → (∀ k, k < w.heap.size → Y k → X k) → Cs r Y w l xs
  | [], xs, h, _ => by
    cases h; exact Cs.nil
  | x :: l, xs, h, hm => by
    obtain ⟨cs, ys, rfl, h1, h2⟩ := h.uncons
    exact Cs.cons (r.mono h1 hm) (h2.mono hm)
theorem Cs.take : ∀ {l : List α} {xs : List Value} (k : Nat), Cs r X w l xs → Cs r X w (l.take k) (xs.take (k * r.n))
  | _, _, 0, h => by simpa using Cs.nil
  | [], xs, k + 1, h => by
    cases h; simpa using Cs.nil
  | x :: l, xs, k + 1, h => by
    obtain ⟨cs, ys, rfl, h1, h2⟩ := h.uncons
    have := r.len h1
    rw [List.take_succ_cons, List.take_append (l₁ := cs), List.take_of_length_le (l := cs) (by rw [this, Nat.add_mul]; omega), show (k + 1) * r.n - cs.length = k * r.n from by rw [this, Nat.add_mul]; omega]
    exact Cs.cons h1 (h2.take k)
theorem Cs.drop : ∀ {l : List α} {xs : List Value} (k : Nat), Cs r X w l xs → Cs r X w (l.drop k) (xs.drop (k * r.n))
  | _, _, 0, h => by simpa using h
  | [], xs, k + 1, h => by
    cases h; simpa using Cs.nil
  | x :: l, xs, k + 1, h => by
    obtain ⟨cs, ys, rfl, h1, h2⟩ := h.uncons
    have := r.len h1
    rw [List.drop_succ_cons, List.drop_append (l₁ := cs), List.drop_eq_nil_of_le (as := cs) (by rw [this, Nat.add_mul]; omega), show (k + 1) * r.n - cs.length = k * r.n from by rw [this, Nat.add_mul]; omega]
    simpa using h2.drop k
theorem Cs.elt (h : Cs r X w l xs) {i : Nat} {x : α} (hx : l[i]? = some x) : ∃ cs, r.R X w x cs ∧ ∀ j u, cs[j]? = some u → xs[i * r.n + j]? = some u := by
  have hi := (List.getElem?_eq_some_iff.1 hx).1
  have h1 := h.drop i
  rw [List.drop_eq_getElem_cons hi] at h1
  obtain ⟨cs, ys, e, h2, -⟩ := h1.uncons
  have hx' : l[i] = x := (List.getElem?_eq_some_iff.1 hx).2
  rw [hx'] at h2
  refine ⟨cs, h2, fun j u hu => ?_⟩
  rw [← List.getElem?_drop, e, List.getElem?_append_left (List.getElem?_eq_some_iff.1 hu).1]; exact hu
theorem Cs.ones (h1 : OneC r) : ∀ {l : List α} {xs : List Value}, Cs r X w l xs → ∀ u ∈ xs, u.oneCell' = true
  | [], xs, h, u, hu => by
    cases h; simp at hu
  | x :: l, xs, h, u, hu => by
    obtain ⟨cs, ys, rfl, h2, h3⟩ := h.uncons
    rcases List.mem_append.1 hu with q | q
    · exact h1 h2 u q
    · exact h3.ones h1 u q
/-- The cells of a slice that is read. -/
theorem Sl.cells (h : Sl r X w v l) (h0 : 0 < l.length) : ∃ b off c xs, v = .slice (some ⟨b, off, none⟩) l.length c ∧ b < w.heap.size ∧ ¬ X b ∧ Cs r X w l xs ∧ ∀ j u, xs[j]? = some u → w.cell? ⟨b, off + j, none⟩ = some u := by
  obtain ⟨a, c, rfl, -, -, h3⟩ := h
  obtain ⟨b, off, rfl, hb, hX, hc⟩ := h3 h0
  suffices q : ∀ (l' : List α) (o : Nat), (∀ i x, l'[i]? = some x → ∃ cs, r.R X w x cs ∧ ∀ j u, cs[j]? = some u → w.cell? ⟨b, o + i * r.n + j, none⟩ = some u) → ∃ xs, Cs r X w l' xs ∧ ∀ j u, xs[j]? = some u → w.cell? ⟨b, o + j, none⟩ = some u by
    obtain ⟨xs, h1, h2⟩ := q l off hc
    exact ⟨b, off, c, xs, rfl, hb, hX, h1, h2⟩
  intro l'
  induction l' with
  | nil => intro o _; exact ⟨[], Cs.nil, by simp⟩
  | cons x l' ih =>
    intro o hq
    obtain ⟨cs, h1, h2⟩ := hq 0 x rfl
    obtain ⟨ys, h4, h5⟩ := ih (o + r.n) (fun i y hy => by
      obtain ⟨cs', g1, g2⟩ := hq (i + 1) y (by simpa using hy)
      exact ⟨cs', g1, fun j u hu => by rw [← g2 j u hu, Nat.add_mul]; congr 2; omega⟩)
    refine ⟨cs ++ ys, Cs.cons h1 h4, fun j u hu => ?_⟩
    have hl := r.len h1
    rw [List.getElem?_append] at hu
    split at hu
    · simpa using h2 j u hu
    · rw [hl] at hu
      rw [← h5 _ u hu]; congr 2; omega
end

section
variable {P : Program} (w : World) {t e k : TypeId}
theorem equalIn_sl0 (d : Nat) (a : Option Addr) (l c : Nat) (h : P.underlying t = some (.slice e)) : (Op.equalIn (d + 1) t (.slice a l c) (.slice none 0 0)).run P w = .ok a.isNone w := by
  cases a <;> simp [Op.equalIn, run_underlying h]
theorem eql_sl0 (a : Option Addr) (l c : Nat) (h : P.underlying t = some (.slice e)) : (binOp .eql t (.slice a l c) (.slice none 0 0)).run P w = .ok (.bool a.isNone) w := by
  simp only [binOp]
  simp [show Op.equal t (.slice a l c) (.slice none 0 0) = Op.equalIn (9999 + 1) t (.slice a l c) (.slice none 0 0) from rfl, equalIn_sl0 w 9999 a l c h]
theorem neq_sl0 (a : Option Addr) (l c : Nat) (h : P.underlying t = some (.slice e)) : (binOp .neq t (.slice a l c) (.slice none 0 0)).run P w = .ok (.bool a.isSome) w := by
  simp only [binOp]
  simp [show Op.equal t (.slice a l c) (.slice none 0 0) = Op.equalIn (9999 + 1) t (.slice a l c) (.slice none 0 0) from rfl, equalIn_sl0 w 9999 a l c h]
theorem equalIn_map0 (d : Nat) (m : Option Nat) (h : P.underlying t = some (.map k e)) : (Op.equalIn (d + 1) t (.map m) (.map none)).run P w = .ok m.isNone w := by
  cases m <;> simp [Op.equalIn, run_underlying h]
theorem eql_map0 (m : Option Nat) (h : P.underlying t = some (.map k e)) : (binOp .eql t (.map m) (.map none)).run P w = .ok (.bool m.isNone) w := by
  simp only [binOp]
  simp [show Op.equal t (.map m) (.map none) = Op.equalIn (9999 + 1) t (.map m) (.map none) from rfl, equalIn_map0 w 9999 m h]
theorem neq_map0 (m : Option Nat) (h : P.underlying t = some (.map k e)) : (binOp .neq t (.map m) (.map none)).run P w = .ok (.bool m.isSome) w := by
  simp only [binOp]
  simp [show Op.equal t (.map m) (.map none) = Op.equalIn (9999 + 1) t (.map m) (.map none) from rfl, equalIn_map0 w 9999 m h]
end
theorem blk_eq {w : World} {b : Nat} {cs cs' : Array Value} {t : TypeId} (h : w.heap[b]? = some (.cells cs t (0, 0))) (e : cs = cs') : w.heap[b]? = some (.cells cs' t (0, 0)) := e ▸ h
theorem sliced_zero (a : Option Addr) (m c n : Nat) : sliced a 0 m c n = .slice a m c := by
  cases a <;> simp [sliced, Addr.add]
/-- A block that holds records is read as a slice. -/
theorem Sl.of_blk {α : Type} {r : Rep α} {X : Nat → Prop} {w : World} {l : List α} {b : Nat} {cs : Array Value} {t : TypeId} (hb : w.heap[b]? = some (.cells cs t (0, 0))) (hX : ¬ X b) (h : Cs r X w l cs.toList) {k : Nat} (hk : k = l.length) (hm : k ≤ maxLen) :
    Sl r X w (.slice (some ⟨b, 0, none⟩) k k) l := by
  subst hk
  refine ⟨_, _, rfl, Nat.le_refl _, hm, fun hl => ⟨b, 0, rfl, blk_lt hb, hX, fun i x hx => ?_⟩⟩
  obtain ⟨cs', g1, g2⟩ := h.elt hx
  exact ⟨cs', g1, fun j u hu => by rw [blk_cell hb]; have := g2 j u hu; simpa using this⟩
/-- What it says hangs on no memory. -/
def Flat {α : Type} (r : Rep α) : Prop := ∀ {X Y : Nat → Prop} {w w' : World} {x : α} {cs : List Value}, r.R X w x cs → r.R Y w' x cs
theorem flat_int : Flat rInt := by rintro X Y w w' x cs h; exact h
theorem flat_str : Flat rStr := by rintro X Y w w' x cs h; exact h
theorem flat_byte : Flat rByte := by rintro X Y w w' x cs h; exact h
theorem flat_word : Flat rWord := by rintro X Y w w' x cs h; exact h
theorem Cs.flat {α : Type} {r : Rep α} (hf : Flat r) {X Y : Nat → Prop} {w w' : World} : ∀ {l : List α} {xs : List Value}, Cs r X w l xs → Cs r Y w' l xs
  | [], xs, h => h
  | x :: l, xs, h => by
    obtain ⟨cs, ys, rfl, h1, h2⟩ := h.uncons
    exact Cs.cons (hf h1) (h2.flat hf)
/-- The block of a slice that one may write: none, where it has no room at all. -/
def ownB : Value → Option Nat
  | .slice (some a) _ c => if c = 0 then none else some a.block
  | _ => none
theorem ownB_block {v : Value} {g : Nat} (h : ownB v = some g) : v.ownBlock = some g := by
  unfold ownB at h
  split at h
  · split at h
    · cases h
    · exact h
  · cases h
/-- A slice of records of one's own. -/
def Ow {α : Type} (r : Rep α) (e : TypeId) (X : Nat → Prop) (w : World) (v : Value) (l : List α) : Prop := (∃ a, v = .slice a 0 0 ∧ l = []) ∨ ∃ xs, OwnS w e r.n v l.length xs ∧ Cs r X w l xs
section
variable {α : Type} {r : Rep α} {e : TypeId} {X Y O : Nat → Prop} {w w' : World} {v : Value} {l l' : List α}
theorem Ow.nil (r : Rep α) (e : TypeId) (X : Nat → Prop) (w : World) : Ow r e X w (.slice none 0 0) [] := .inl ⟨none, rfl, rfl⟩
theorem Ow.split (h : Ow r e X w v l) : (∃ a, v = .slice a 0 0 ∧ l = [] ∧ ownB v = none) ∨ ∃ xs, OwnS w e r.n v l.length xs ∧ Cs r X w l xs ∧ ownB v = v.ownBlock := by
  rcases h with ⟨a, rfl, rfl⟩ | ⟨xs, h1, h2⟩
  · exact .inl ⟨a, rfl, rfl, by cases a <;> rfl⟩
  · rcases h1.2 with ⟨rfl, hk⟩ | ⟨g, off, cap, cur, rfl, r⟩
    · exact .inl ⟨none, rfl, List.length_eq_zero_iff.1 hk, rfl⟩
    · by_cases hc : cap = 0
      · subst hc
        have : l.length = 0 := Nat.le_zero.1 r.2.1
        exact .inl ⟨some ⟨g, off, none⟩, by rw [this], List.length_eq_zero_iff.1 this, by simp [ownB]⟩
      · exact .inr ⟨xs, h1, h2, by simp [ownB, hc, Value.ownBlock]⟩
theorem Ow.sl (h : Ow r e X w v l) (hX : ∀ b, ownB v = some b → ¬ X b) : Sl r X w v l := by
  rcases h.split with ⟨a, rfl, rfl, -⟩ | ⟨xs, h1, h2, hb⟩
  · exact ⟨a, 0, rfl, Nat.le_refl _, Nat.zero_le _, fun q => absurd q (by simp)⟩
  · rw [hb] at hX
    obtain ⟨a, c, rfl, hc, hm, hs⟩ := h1.slice
    refine ⟨a, c, rfl, hc, hm, fun hl => ?_⟩
    obtain ⟨b, off, rfl, hb, hob, hcell, -⟩ := hs hl
    refine ⟨b, off, rfl, hb, hX b hob, fun i x hx => ?_⟩
    obtain ⟨cs, g1, g2⟩ := h2.elt hx
    exact ⟨cs, g1, fun j u hu => by rw [Nat.add_assoc]; exact hcell _ _ (g2 j u hu)⟩
theorem Ow.step (h : Ow r e X w v l) (hs : Step O w w') (ho : ∀ k, O k → X k) (hn : ∀ g, ownB v = some g → ¬ O g) : Ow r e X w' v l := by
  rcases h.split with ⟨a, rfl, rfl, -⟩ | ⟨xs, h1, h2, hb⟩
  · exact .inl ⟨a, rfl, rfl⟩
  · rw [hb] at hn
    exact .inr ⟨xs, h1.step hs hn, h2.step hs ho⟩
theorem Ow.keep (h : Ow r e X w v l) (hs : Keep w w') : Ow r e X w' v l := h.step hs (fun _ q => q.elim) (fun _ _ q => q)
theorem Ow.flat (hf : Flat r) (h : Ow r e X w v l) (hs : Step O w w') (hn : ∀ g, ownB v = some g → ¬ O g) : Ow r e Y w' v l := by
  rcases h.split with ⟨a, rfl, rfl, -⟩ | ⟨xs, h1, h2, hb⟩
  · exact .inl ⟨a, rfl, rfl⟩
  · rw [hb] at hn
    exact .inr ⟨xs, h1.step hs hn, h2.flat hf⟩
theorem Ow.mono (h : Ow r e X w v l) (hm : ∀ k, k < w.heap.size → Y k → X k) : Ow r e Y w v l := by
  rcases h with ⟨a, rfl, rfl⟩ | ⟨xs, h1, h2⟩
  · exact .inl ⟨a, rfl, rfl⟩
  · exact .inr ⟨xs, h1, h2.mono hm⟩
theorem Ow.slice (h : Ow r e X w v l) : ∃ a c, v = .slice a l.length c ∧ l.length ≤ c ∧ c ≤ maxLen := by
  rcases h with ⟨a, rfl, rfl⟩ | ⟨xs, h1, h2⟩
  · exact ⟨a, 0, rfl, Nat.le_refl _, Nat.zero_le _⟩
  · obtain ⟨a, c, q, hc, hm, -⟩ := h1.slice
    exact ⟨a, c, q, hc, hm⟩
theorem Ow.cut (h : Ow r e X w v l) {i m : Nat} (hi : i ≤ m) (hm : m ≤ l.length) : ∃ a c, v = .slice a l.length c ∧ l.length ≤ c ∧ c ≤ maxLen ∧ Ow r e X w (sliced a i m c r.n) ((l.drop i).take (m - i)) ∧ ∀ g, ownB (sliced a i m c r.n) = some g → ownB v = some g := by
  rcases h.split with ⟨a, rfl, rfl, hb⟩ | ⟨xs, h1, h2, hb⟩
  · obtain rfl : m = 0 := by simpa using hm
    obtain rfl : i = 0 := by omega
    refine ⟨a, 0, rfl, Nat.le_refl _, Nat.zero_le _, .inl ⟨a, by simp [sliced], by simp⟩, fun g hg => ?_⟩
    simpa [sliced] using hg
  · obtain ⟨a, c, rfl, h3, h4, h5, h6⟩ := h1.cut hi hm
    refine ⟨a, c, rfl, h5, h6, .inr ⟨_, by rw [show ((l.drop i).take (m - i)).length = m - i from by rw [List.length_take, List.length_drop]; omega]; exact h3, ?_⟩, fun g hg => ?_⟩
    · have := (h2.drop i).take (m - i)
      exact this
    · rw [hb, ← h4]; exact ownB_block hg
theorem Ow.lt (h : Ow r e X w v l) {g : Nat} (hg : ownB v = some g) : g < w.heap.size := by
  rcases h.split with ⟨a, rfl, rfl, hb⟩ | ⟨xs, h1, h2, hb⟩
  · rw [hb] at hg; cases hg
  · exact h1.lt (hb ▸ hg)
end
section
variable {P : Program} {α : Type} {r : Rep α} {X O : Nat → Prop} {w : World} {k : Value → World → Prop} {tk : Tag k} {t ty e : TypeId} {v x : Value} {l l' : List α}
/-- An append to nothing, wherever it points. -/
theorem app_clone (bytes : Nat) (ht : P.underlying t = some (.slice e)) (hi : recB P e r.n bytes = true) (h1 : OneC r) (a : Option Addr) (hx : Sl r X w x l')
    (hbytes : l'.length * bytes ≤ 140737488355328)
    (h : ∀ v' w', Ow r e X w' v' l' → Keep w w' → (∀ g, ownB v' = some g → w.heap.size ≤ g) → k v' w') : appF P #[t, t] ty (Shut k tk) (.slice a 0 0) x w := by
  by_cases h0 : l' = []
  · subst h0
    obtain ⟨a', c', rfl, -, -, -⟩ := hx
    unfold recB at hi
    split at hi
    · rename_i i hi'
      refine appF_intro (v := .slice a 0 0) (w' := w) ?_ (h _ _ (.inl ⟨a, rfl, rfl⟩) (Keep.refl _) (by cases a <;> simp [ownB]))
      have hfc : (Builtin.firstCells i.size 0 (.slice a' 0 c')).run P w = .ok #[] w := by
        cases a' with
        | none => simp [Builtin.firstCells]
        | some a' => exact run_firstCells_some (P := P) w i.size 0 a' 0 c' [] (by simp) (by simp)
      cases a <;> simp [Builtin.append_, run_underlying ht, sizeOf, typeInfo, hi', Builtin.lenOf, hfc, storeCells]
    · cases hi
  · have hl0 : 0 < l'.length := List.length_pos_iff.2 h0
    have hlm := hx.len
    obtain ⟨b, off, c, ys, rfl, hb, hX, g1, g2⟩ := hx.cells hl0
    have g2' : ∀ j u, ys[j]? = some u → w.cell? ((⟨b, off, none⟩ : Addr).add j) = some u := fun j u hu => by rw [Addr.add_mid]; exact g2 j u hu
    unfold recB at hi
    split at hi
    · rename_i i hi'
      split at hi
      · rename_i z hz
        simp only [Bool.and_eq_true, beq_iff_eq, decide_eq_true_eq] at hi
        obtain ⟨⟨⟨e1, e2⟩, e3⟩, e4⟩ := hi
        have go : ∃ v' w', (Builtin.append_ #[t, t] ty #[.slice a 0 0, .slice (some ⟨b, off, none⟩) l'.length c]).run P w = .ok v' w' ∧ w'.ownsRow w.heap.size e r.n v' l'.length ys ∧ w.grownBy w' none := by
          cases a with
          | none =>
            obtain ⟨v', w', hr, h2, h3, -⟩ := run_append_own (P := P) w w.heap.size t ty e i z r.n bytes ht hi' hz e1 e2 e3 e4 _ 0 [] (World.ownsRow_nil w _ e r.n) _ _ c ys g1.length g2' (g1.ones h1) (by simpa using hlm) (by simpa using hbytes) (Nat.le_refl _)
            exact ⟨v', w', hr, by simpa using h2, h3⟩
          | some a =>
            obtain ⟨v', w', hr, h2, h3⟩ := run_append_arg_grows (P := P) w t ty e i z r.n bytes ht hi' hz e1 e2 e3 e4 a 0 0 [] (by simp) (by simp) _ _ c ys g1.length g2' (by omega) (by simpa using hlm) (by simpa using hbytes)
            exact ⟨v', w', hr, by simpa using h2, h3⟩
        obtain ⟨v', w', hr, h2, h3⟩ := go
        have hk : Keep w w' := (Step.refl _ w).grown h3 (fun k hk => by cases hk)
        have ho : Ow r e X w' v' l' := .inr ⟨ys, .of_row h2, g1.keep hk⟩
        refine appF_intro hr (h v' w' ho hk fun g hg => ?_)
        rcases ho.split with ⟨a, rfl, rfl, hb⟩ | ⟨xs, -, -, hb⟩
        · rw [hb] at hg; cases hg
        · exact (h2.lt g (hb ▸ hg)).1
      · cases hi
    · cases hi
/-- Records are appended to a slice of one's own. -/
theorem app_rows (bytes : Nat) (ht : P.underlying t = some (.slice e)) (hi : recB P e r.n bytes = true) (h1 : OneC r) (hown : Ow r e X w v l) (hx : Sl r X w x l')
    (h63 : l.length + l'.length ≤ maxLen) (hbytes : (l.length + l'.length) * bytes ≤ 140737488355328) (hvX : ∀ g, ownB v = some g → X g)
    (h : ∀ v' w', Ow r e X w' v' (l ++ l') → Step (fun g => ownB v = some g) w w' → (∀ g, ownB v' = some g → ownB v = some g ∨ w.heap.size ≤ g) → k v' w') : appF P #[t, t] ty (Shut k tk) v x w := by
  rcases hown.split with ⟨a, rfl, rfl, hb⟩ | ⟨xs, o1, o2, hb⟩
  · refine app_clone bytes ht hi h1 a hx (by simpa using hbytes) fun v' w' q1 q2 q3 => h v' w' (by simpa using q1) q2.any fun g hg => .inr (q3 g hg)
  · by_cases h0 : l' = []
    · subst h0
      obtain ⟨a, c, rfl, hc, hm, hs⟩ := o1.slice
      obtain ⟨a', c', rfl, -, -, -⟩ := hx
      unfold recB at hi
      split at hi
      · rename_i i hi'
        refine appF_intro (v := .slice a l.length c) (w' := w) ?_ (h _ _ (by simpa using .inr ⟨xs, o1, o2⟩) (Step.refl _ _) (fun g hg => .inl hg))
        have hfc : (Builtin.firstCells i.size 0 (.slice a' 0 c')).run P w = .ok #[] w := by
          cases a' with
          | none => simp [Builtin.firstCells]
          | some a' => exact run_firstCells_some (P := P) w i.size 0 a' 0 c' [] (by simp) (by simp)
        cases a <;> simp [Builtin.append_, run_underlying ht, sizeOf, typeInfo, hi', Builtin.lenOf, hc, hfc, storeCells]
      · cases hi
    · have hl0 : 0 < l'.length := List.length_pos_iff.2 h0
      obtain ⟨b, off, c, ys, rfl, hb', hX, g1, g2⟩ := hx.cells hl0
      refine app_at r.n bytes ht hi o1 ys g1.length (fun j u hu => by rw [Addr.add_mid]; exact g2 j u hu) (g1.ones h1) h63 hbytes fun v' w' a1 a2 a3 => ?_
      rw [← hb] at a2 a3
      have ho : Ow r e X w' v' (l ++ l') := .inr ⟨_, by rw [List.length_append]; exact a1, (o2.append g1).step a2 hvX⟩
      refine h v' w' ho a2 fun g hg => ?_
      rcases ho.split with ⟨a, rfl, hnil, hb2⟩ | ⟨xs, -, -, hb2⟩
      · rw [hb2] at hg; cases hg
      · exact a3 g (hb2 ▸ hg)
/-- .. of a kind that hangs on no memory. -/
theorem app_flat {Y Z : Nat → Prop} (bytes : Nat) (hf : Flat r) (ht : P.underlying t = some (.slice e)) (hi : recB P e r.n bytes = true) (h1 : OneC r) (hown : Ow r e Y w v l) (hx : Sl r Z w x l')
    (h63 : l.length + l'.length ≤ maxLen) (hbytes : (l.length + l'.length) * bytes ≤ 140737488355328)
    (h : ∀ v' w', Ow r e Y w' v' (l ++ l') → Step (fun g => ownB v = some g) w w' → (∀ g, ownB v' = some g → ownB v = some g ∨ w.heap.size ≤ g) → k v' w') : appF P #[t, t] ty (Shut k tk) v x w := by
  have flatO : ∀ {X Y : Nat → Prop} {w : World} {v : Value} {l : List α}, Ow r e X w v l → Ow r e Y w v l := fun h => h.flat (O := fun _ => False) hf (Step.refl _ _) (fun _ _ q => q)
  have hx' : Sl r (fun _ => False) w x l' := hx.mono (fun _ _ q => q.elim)
  rcases hown.split with ⟨a, rfl, rfl, hb⟩ | ⟨xs, o1, o2, hb⟩
  · refine app_clone bytes ht hi h1 a hx (by simpa using hbytes) fun v' w' q1 q2 q3 => h v' w' (by simpa using flatO q1) q2.any fun g hg => .inr (q3 g hg)
  · by_cases h0 : l' = []
    · subst h0
      obtain ⟨a, c, rfl, hc, hm, hs⟩ := o1.slice
      obtain ⟨a', c', rfl, -, -, -⟩ := hx
      unfold recB at hi
      split at hi
      · rename_i i hi'
        refine appF_intro (v := .slice a l.length c) (w' := w) ?_ (h _ _ (by simpa using .inr ⟨xs, o1, o2⟩) (Step.refl _ _) (fun g hg => .inl hg))
        have hfc : (Builtin.firstCells i.size 0 (.slice a' 0 c')).run P w = .ok #[] w := by
          cases a' with
          | none => simp [Builtin.firstCells]
          | some a' => exact run_firstCells_some (P := P) w i.size 0 a' 0 c' [] (by simp) (by simp)
        cases a <;> simp [Builtin.append_, run_underlying ht, sizeOf, typeInfo, hi', Builtin.lenOf, hc, hfc, storeCells]
      · cases hi
    · have hl0 : 0 < l'.length := List.length_pos_iff.2 h0
      obtain ⟨b, off, c, ys, rfl, hb', hX, g1, g2⟩ := hx'.cells hl0
      refine app_at r.n bytes ht hi o1 ys g1.length (fun j u hu => by rw [Addr.add_mid]; exact g2 j u hu) (g1.ones h1) h63 hbytes fun v' w' a1 a2 a3 => ?_
      rw [← hb] at a2 a3
      have ho : Ow r e Y w' v' (l ++ l') := .inr ⟨_, by rw [List.length_append]; exact a1, (o2.flat hf (Y := Y)).append (g1.flat hf (Y := Y))⟩
      refine h v' w' ho a2 fun g hg => ?_
      rcases ho.split with ⟨a, rfl, hnil, hb2⟩ | ⟨xs, -, -, hb2⟩
      · rw [hb2] at hg; cases hg
      · exact a3 g (hb2 ▸ hg)
end
theorem Cs.ints {X : Nat → Prop} {w : World} : ∀ {l : List Int} {xs : List Value}, Cs rInt X w l xs ↔ xs = l.map (Value.int .i64) ∧ ∀ x ∈ l, I64 x
  | [], xs => by simp [Cs]
  | x :: l, xs => by
    constructor
    · intro h
      obtain ⟨cs, ys, rfl, ⟨rfl, h1⟩, h2⟩ := h.uncons
      obtain ⟨rfl, h3⟩ := Cs.ints.1 h2
      exact ⟨by simp, by simp [h1]; exact h3⟩
    · rintro ⟨rfl, h⟩
      exact Cs.cons (cs := [.int .i64 x]) ⟨rfl, h x (by simp)⟩ (Cs.ints.2 ⟨rfl, fun y hy => h y (by simp [hy])⟩)
/-- One element of a row of ints of one's own: read, and written over. -/
theorem Ow.int_at {e : TypeId} {X : Nat → Prop} {w : World} {v : Value} {l : List Int} (h : Ow rInt e X w v l) {i : Nat} {x : Int} (hx : l[i]? = some x) : ∃ g off c, v = .slice (some ⟨g, off, none⟩) l.length c ∧ g < w.heap.size ∧ ownB v = some g ∧ w.cell? ⟨g, off + i, none⟩ = some (.int .i64 x) ∧
    w.frozen? ⟨g, off + i, none⟩ = false ∧ I64 x ∧ ∀ y, I64 y → Ow rInt e X (w.setCell ⟨g, off + i, none⟩ (.int .i64 y)) v (l.set i y) := by
  have hi := (List.getElem?_eq_some_iff.1 hx).1
  rcases h.split with ⟨a, rfl, rfl, -⟩ | ⟨xs, h1, h2, hb⟩
  · simp at hi
  · obtain ⟨rfl, h64⟩ := Cs.ints.1 h2
    obtain ⟨a, c, rfl, hc, hm, hs⟩ := h1.slice
    obtain ⟨g, off, rfl, hg, hob, hcell, hfr⟩ := hs (by omega)
    refine ⟨g, off, c, rfl, hg, by rw [hb, hob], hcell i _ (by simp [hx]), hfr _, h64 x (List.mem_of_getElem? hx), fun y hy => .inr ⟨(l.set i y).map (Value.int .i64), ?_, Cs.ints.2 ⟨rfl, fun z hz => ?_⟩⟩⟩
    · have := (h1.write (i := i) (ys := [.int .i64 y]) (by simp [rInt]; omega)).1
      rw [List.length_set]
      have e1 : (l.set i y).map (Value.int .i64) = (l.map (Value.int .i64)).take i ++ [.int .i64 y] ++ (l.map (Value.int .i64)).drop (i + [Value.int .i64 y].length) := by
        rw [List.map_set, List.set_eq_take_append_cons_drop, if_pos (by simpa using hi)]
        simp
      rw [e1]
      exact this
    · rcases List.mem_or_eq_of_mem_set hz with q | q
      · exact h64 z q
      · exact q ▸ hy
end Go.Proofs.YtdfjfagljngciaaGreat

set_option linter.all false
set_option maxRecDepth 100000
namespace Go.Proofs.YtdfjfagljngciaaGreat
open Go.ChangeShapes Go.WideShapes Go.ChangeAt Go.RowKit Go.Deep Rx

theorem Cs.set {α : Type} {r : Rep α} (hf : Flat r) {X : Nat → Prop} {w w' : World} {y : α} {ys : List Value} (hy : r.R X w y ys) : ∀ {l : List α} {xs : List Value} {i : Nat}, i < l.length → Cs r X w l xs → Cs r X w' (l.set i y) (xs.take (i * r.n) ++ ys ++ xs.drop (i * r.n + r.n))
  | [], _, _, h, _ => by simp at h
  | x :: l, xs, 0, _, h => by
    obtain ⟨cs, xs', rfl, h1, h2⟩ := h.uncons
    have := r.len h1
    rw [Nat.zero_mul, List.take_zero, List.nil_append, Nat.zero_add, List.drop_append, List.drop_eq_nil_of_le (as := cs) (by omega), show r.n - cs.length = 0 by omega]
    exact Cs.cons (hf hy) (h2.flat hf)
  | x :: l, xs, i + 1, hi, h => by
    obtain ⟨cs, xs', rfl, h1, h2⟩ := h.uncons
    have hc := r.len h1
    have ih := Cs.set hf (w' := w') hy (i := i) (by simpa using hi) h2
    rw [List.set_cons_succ, List.take_append (l₁ := cs), List.take_of_length_le (l := cs) (by rw [hc, Nat.add_mul]; omega), show (i + 1) * r.n - cs.length = i * r.n from by rw [hc, Nat.add_mul]; omega, List.drop_append (l₁ := cs),
      List.drop_eq_nil_of_le (as := cs) (by rw [hc, Nat.add_mul]; omega), show (i + 1) * r.n + r.n - cs.length = i * r.n + r.n from by rw [hc, Nat.add_mul]; omega]
    simpa [List.append_assoc] using Cs.cons (hf (w' := w') h1) ih
theorem Ow.at {α : Type} {r : Rep α} {e : TypeId} {X : Nat → Prop} {w : World} {v : Value} {l : List α} (h : Ow r e X w v l) {i : Nat} {x : α} (hx : l[i]? = some x) : ∃ g off c cs, v = .slice (some ⟨g, off, none⟩) l.length c ∧ g < w.heap.size ∧ ownB v = some g ∧ r.R X w x cs ∧
    (∀ j u, cs[j]? = some u → w.cell? ⟨g, off + i * r.n + j, none⟩ = some u) ∧ (∀ j, w.frozen? ⟨g, j, none⟩ = false) ∧ (Flat r → ∀ y ys, r.R X w y ys → Ow r e X (w.setCells g (off + i * r.n) ys) v (l.set i y)) := by
  have hi := (List.getElem?_eq_some_iff.1 hx).1
  rcases h.split with ⟨a, rfl, rfl, -⟩ | ⟨xs, h1, h2, hb⟩
  · simp at hi
  · obtain ⟨a, c, rfl, hc, hm, hs⟩ := h1.slice
    obtain ⟨g, off, rfl, hg, hob, hcell, hfr⟩ := hs (by omega)
    obtain ⟨cs, g1, g2⟩ := h2.elt hx
    refine ⟨g, off, c, cs, rfl, hg, by rw [hb, hob], g1, fun j u hu => by rw [Nat.add_assoc]; exact hcell _ _ (g2 j u hu), hfr, fun hf y ys hy => .inr ⟨_, ?_, h2.set hf hy hi⟩⟩
    have hl := r.len hy
    have hmul : i * r.n + r.n ≤ l.length * r.n := by rw [← Nat.succ_mul]; exact Nat.mul_le_mul_right _ hi
    have := (h1.write (i := i * r.n) (ys := ys) (by omega)).1
    rw [hl] at this
    rw [List.length_set]
    exact this

theorem Ow.blk {α : Type} {r : Rep α} {e : TypeId} {X : Nat → Prop} {w : World} {a : Option Addr} {k c : Nat} {l : List α} (h : Ow r e X w (.slice a k c) l) (hc : 0 < c) : ∃ g off cur, a = some ⟨g, off, none⟩ ∧ w.heap[g]? = some (.cells cur e (0, 0)) ∧ off + c * r.n ≤ cur.size ∧ ∃ xs, OwnS w e r.n (.slice a k c) l.length xs ∧ Cs r X w l xs := by
  rcases h.split with ⟨a', e', rfl, -⟩ | ⟨xs, h1, h2, hb⟩
  · simp at e'; omega
  · have h1' := h1
    rcases h1.2 with ⟨e', -⟩ | ⟨g, off, cap, cur, e', hg, hk, hm, hs, -⟩
    · simp at e'; omega
    · simp only [Value.slice.injEq] at e'
      obtain ⟨rfl, rfl, rfl⟩ := e'
      exact ⟨g, off, cur, rfl, hg, hs, xs, h1', h2⟩
/-- Behind the first i elements anything may be written. -/
theorem Ow.head {α : Type} {r : Rep α} (hf : Flat r) {e : TypeId} {X : Nat → Prop} {w : World} {g off k c : Nat} {l : List α} {xs zs : List Value} (h1 : OwnS w e r.n (.slice (some ⟨g, off, none⟩) k c) l.length xs) (h2 : Cs r X w l xs) {i : Nat} (hi : i ≤ l.length) (hz : i * r.n + zs.length ≤ l.length * r.n) :
    Ow r e X (w.setCells g (off + i * r.n) zs) (.slice (some ⟨g, off, none⟩) i c) (l.take i) := by
  obtain ⟨a, c', e', -⟩ := h1.slice
  simp only [Value.slice.injEq] at e'
  obtain ⟨rfl, rfl, rfl⟩ := e'
  have hw := (h1.write (i := i * r.n) (ys := zs) hz).1
  obtain ⟨a', c'', e', h3, -⟩ := hw.cut (l := 0) (m := i) (Nat.zero_le _) hi
  simp only [Value.slice.injEq, true_and] at e'
  obtain ⟨rfl, rfl⟩ := e'
  rw [sliced_zero] at h3
  simp only [Nat.sub_zero, Nat.zero_mul, List.drop_zero] at h3
  have hlen : xs.length = l.length * r.n := h1.1
  have hmul : i * r.n ≤ l.length * r.n := Nat.mul_le_mul_right _ hi
  refine .inr ⟨xs.take (i * r.n), ?_, (h2.take i).flat hf⟩
  rw [List.length_take, Nat.min_eq_left hi]
  have e1 : (xs.take (i * r.n) ++ zs ++ xs.drop (i * r.n + zs.length)).take (i * r.n) = xs.take (i * r.n) := by
    rw [List.append_assoc, List.take_append, List.take_of_length_le (l := xs.take _) (by simp; omega), show i * r.n - (xs.take (i * r.n)).length = 0 by rw [List.length_take]; omega]
    simp
  rw [e1] at h3
  exact h3
section
variable {P : Program} (w : World) {t t' ty e : TypeId}
theorem run_copyS (n : Nat) (hu : P.underlying t = some (.slice e)) (hs : (P.info? e).map (·.size) = some n) {g o dl dc sl sc : Nat} {a : Addr} (cs : List Value) (hl : cs.length = Nat.min sl dl * n) (hsrc : ∀ j u, cs[j]? = some u → w.cell? (a.add j) = some u)
    {cur : Array Value} {tc : TypeId} (hg : w.heap[g]? = some (.cells cur tc (0, 0))) (hfit : o + cs.length ≤ cur.size) (h1 : ∀ u ∈ cs, u.oneCell' = true) :
    (Builtin.copy_ #[t, t'] ty #[.slice (some ⟨g, o, none⟩) dl dc, .slice (some a) sl sc]).run P w = .ok (goInt (Nat.min sl dl)) (w.setCells g o cs) := by
  have hsz : (sizeOf e).run P w = .ok n w := by
    cases hq : P.info? e with
    | none => simp [hq] at hs
    | some inf => simp [sizeOf, typeInfo, hq] at hs ⊢; exact hs
  have hfc := run_firstCells_some (P := P) w n (Nat.min sl dl) a sl sc cs hl hsrc
  have hst := run_storeCells_cells (P := P) g o cs 0 w (fun j hj => by rw [blk_cell hg, Array.getElem?_eq_getElem (by omega)]; rfl) (fun j _ => blk_free hg _) h1
  simp only [Nat.add_zero] at hst
  simp [Builtin.copy_, run_underlying hu, Builtin.lenOf, Sem.run_bind, hsz, hfc, hst]
theorem run_clear0 (a : Option Addr) (c : Nat) (hu : P.underlying t = some (.slice e)) : (Builtin.clear_ #[t] ty #[.slice a 0 c]).run P w = .ok (.tuple #[]) w := by
  cases a <;> simp [Builtin.clear_, run_underlying hu]
theorem run_clearS {z : Value} (hz : (zeroValue e).run P w = .ok z w) (h1 : ∀ u ∈ z.cells, u.oneCell' = true) (hu : P.underlying t = some (.slice e)) {g o k c : Nat} (hk : 0 < k) {cur : Array Value} {tc : TypeId} (hg : w.heap[g]? = some (.cells cur tc (0, 0))) (hfit : o + k * z.cells.size ≤ cur.size) :
    ∃ zs, zs.length = k * z.cells.size ∧ (Builtin.clear_ #[t] ty #[.slice (some ⟨g, o, none⟩) k c]).run P w = .ok (.tuple #[]) (w.setCells g o zs) := by
  have hk0 : k ≠ 0 := by omega
  refine ⟨(Builtin.zeroCells z.cells k).toList, by simp [Builtin.zeroCells], ?_⟩
  have hlen : (Builtin.zeroCells z.cells k).toList.length = k * z.cells.size := by simp [Builtin.zeroCells]
  have hst := run_storeCells_cells (P := P) g o (Builtin.zeroCells z.cells k).toList 0 w (fun j hj => by rw [blk_cell hg, Array.getElem?_eq_getElem (by omega)]; rfl) (fun j _ => blk_free hg _) (fun u hu' => by
    simp only [Builtin.zeroCells, Array.toList_map, List.mem_map] at hu'
    obtain ⟨i, hi, rfl⟩ := hu'
    have hi' : i < k * z.cells.size := by simpa using hi
    have h0 : 0 < z.cells.size := by
      rcases Nat.eq_zero_or_pos z.cells.size with q | q
      · rw [q] at hi'; simp at hi'
      · exact q
    have hm := Nat.mod_lt i h0
    rw [getElem!_pos z.cells _ hm]
    exact h1 _ (Array.getElem_mem hm))
  simp only [Nat.add_zero] at hst
  cases k with
  | zero => omega
  | succ k => simp [Builtin.clear_, run_underlying hu, hz, hst]
end
end Go.Proofs.YtdfjfagljngciaaGreat
