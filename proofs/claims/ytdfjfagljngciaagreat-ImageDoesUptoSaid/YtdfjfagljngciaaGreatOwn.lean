/- A slice that one has for oneself, wherever in its row it begins: what is read in it, cut off it, put into it and behind it. -/
import Derived.Test.YtdfjfagljngciaaGreatBase
import Derived.ArgAppend
import Derived.Laws.Slices
set_option linter.all false
namespace Go.Proofs.YtdfjfagljngciaaGreat
open Go.RowKit Rx

/-- k elements of n cells each, that read xs, from off on in a row that is written by nobody else. -/
def OwnS (w : World) (e : TypeId) (n : Nat) (v : Value) (k : Nat) (xs : List Value) : Prop :=
  xs.length = k * n ∧ ((v = .slice none 0 0 ∧ k = 0) ∨ ∃ g off cap cur, v = .slice (some ⟨g, off, none⟩) k cap ∧ w.heap[g]? = some (.cells cur e (0, 0)) ∧ k ≤ cap ∧ cap ≤ maxLen ∧ off + cap * n ≤ cur.size ∧ (cur.toList.drop off).take (k * n) = xs)

section
variable {w w' : World} {e : TypeId} {n : Nat} {v : Value} {k : Nat} {xs : List Value}
theorem OwnS.nil (w : World) (e : TypeId) (n : Nat) : OwnS w e n (.slice none 0 0) 0 [] := ⟨by simp, .inl ⟨rfl, rfl⟩⟩
theorem OwnS.of_row {base : Nat} (h : w.ownsRow base e n v k xs) : OwnS w e n v k xs := by
  refine ⟨h.1, ?_⟩
  rcases h.2 with q | ⟨g, cap, cur, rfl, hb, hg, hc, hm, hs, ht⟩
  · exact .inl q
  · exact .inr ⟨g, 0, cap, cur, rfl, hg, hc, hm, by rw [hs]; omega, by simpa using ht⟩
theorem OwnS.lt (h : OwnS w e n v k xs) {g : Nat} (hg : v.ownBlock = some g) : g < w.heap.size := by
  rcases h.2 with ⟨rfl, rfl⟩ | ⟨g', off, cap, cur, rfl, hb, _⟩
  · cases hg
  · simp [Value.ownBlock] at hg
    subst hg; exact blk_lt hb
theorem OwnS.step {O : Nat → Prop} (h : OwnS w e n v k xs) (hs : Step O w w') (hn : ∀ g, v.ownBlock = some g → ¬ O g) : OwnS w' e n v k xs := by
  refine ⟨h.1, ?_⟩
  rcases h.2 with q | ⟨g, off, cap, cur, rfl, hb, r⟩
  · exact .inl q
  · exact .inr ⟨g, off, cap, cur, rfl, hs.blk hb (hn g rfl), r⟩
theorem OwnS.keep (h : OwnS w e n v k xs) (hs : Keep w w') : OwnS w' e n v k xs := h.step hs (fun _ _ q => q)
theorem OwnS.slice (h : OwnS w e n v k xs) : ∃ a c, v = .slice a k c ∧ k ≤ c ∧ c ≤ maxLen ∧ (0 < k → ∃ g off, a = some ⟨g, off, none⟩ ∧ g < w.heap.size ∧ v.ownBlock = some g ∧ (∀ j u, xs[j]? = some u → w.cell? ⟨g, off + j, none⟩ = some u) ∧ ∀ j, w.frozen? ⟨g, j, none⟩ = false) := by
  rcases h.2 with ⟨rfl, rfl⟩ | ⟨g, off, cap, cur, rfl, hg, hc, hm, hs, ht⟩
  · exact ⟨_, _, rfl, Nat.le_refl _, Nat.zero_le _, fun q => absurd q (by omega)⟩
  · refine ⟨_, _, rfl, hc, hm, fun _ => ⟨g, off, rfl, blk_lt hg, rfl, fun j u hu => ?_, fun j => blk_free hg j⟩⟩
    rw [blk_cell hg]
    rw [← ht, List.getElem?_take] at hu
    split at hu
    · rw [List.getElem?_drop] at hu
      simpa using hu
    · cases hu
/-- Its cells are read as those of one that came in. -/
theorem OwnS.cut (h : OwnS w e n v k xs) {l m : Nat} (hl : l ≤ m) (hm : m ≤ k) : ∃ a c, v = .slice a k c ∧ OwnS w e n (sliced a l m c n) (m - l) ((xs.drop (l * n)).take ((m - l) * n)) ∧ ((sliced a l m c n).ownBlock = v.ownBlock) ∧ k ≤ c ∧ c ≤ maxLen := by
  rcases h.2 with ⟨rfl, rfl⟩ | ⟨g, off, cap, cur, rfl, hg, hc, hmx, hs, ht⟩
  · obtain rfl : m = 0 := by omega
    obtain rfl : l = 0 := by omega
    refine ⟨none, 0, rfl, ⟨?_, .inl ⟨by simp [sliced], rfl⟩⟩, by simp [sliced], Nat.le_refl _, Nat.zero_le _⟩
    simp
  · have h1 := h.1
    have hmul1 : l * n ≤ m * n := Nat.mul_le_mul_right _ hl
    have hmul2 : m * n ≤ k * n := Nat.mul_le_mul_right _ hm
    have hmul3 : k * n ≤ cap * n := Nat.mul_le_mul_right _ hc
    have e1 : (m - l) * n = m * n - l * n := Nat.sub_mul ..
    have e2 : (cap - l) * n = cap * n - l * n := Nat.sub_mul ..
    refine ⟨_, cap, rfl, ⟨?_, ?_⟩, ?_, hc, hmx⟩
    · rw [List.length_take, List.length_drop, h1]; omega
    · by_cases hcl : cap = l
      · refine .inr ⟨g, off, cap - l, cur, by simp [sliced, hcl], hg, by omega, by omega, by omega, ?_⟩
        have : m - l = 0 := by omega
        rw [this]; simp
      · refine .inr ⟨g, off + l * n, cap - l, cur, by simp [sliced, hcl, Addr.add_mid], hg, by omega, by omega, by omega, ?_⟩
        rw [← ht, List.drop_take, List.take_take, List.drop_drop]
        congr 1
        omega
    · unfold sliced
      split
      · rfl
      · simp [Value.ownBlock, Addr.add_mid]
end

theorem toList_putL : ∀ (vs : List Value) (cur : Array Value) (o : Nat), o + vs.length ≤ cur.size → (putL cur o vs).toList = cur.toList.take o ++ vs ++ cur.toList.drop (o + vs.length)
  | [], cur, o, h => by simp [putL]
  | x :: r, cur, o, h => by
    have h' : o < cur.size := by simp at h; omega
    rw [putL, toList_putL r _ _ (by simp at h ⊢; omega)]
    simp only [Array.toList_setIfInBounds, List.length_cons]
    rw [List.take_set, List.drop_set_of_lt (by omega), show o + 1 + r.length = o + (r.length + 1) by omega]
    have : (cur.toList.take (o + 1)).set o x = cur.toList.take o ++ [x] := by
      rw [List.take_succ_eq_append_getElem (by simpa using h'), List.set_append_right _ _ (by simp; omega)]
      simp [Nat.min_eq_left (Nat.le_of_lt h')]
    rw [this]; simp
theorem blk_sets {w : World} {b : Nat} {t : TypeId} : ∀ (vs : List Value) (o : Nat) {w : World} {cs : Array Value}, w.heap[b]? = some (.cells cs t (0, 0)) → (w.setCells b o vs).heap[b]? = some (.cells (putL cs o vs) t (0, 0))
  | [], o, w, cs, h => h
  | x :: r, o, w, cs, h => blk_sets (w := w) r (o + 1) (blk_set h o x)
theorem step_sets (b : Nat) : ∀ (vs : List Value) (o : Nat) (w : World), Step (· = b) w (w.setCells b o vs)
  | [], o, w => Step.refl _ w
  | x :: r, o, w => ((Step.refl (fun k => k = b) w).set (p := ⟨b, o, none⟩) (.inl rfl) x).both (step_sets b r (o + 1) _)

/-- Elements are written over. -/
theorem OwnS.write {w : World} {e : TypeId} {n : Nat} {k : Nat} {xs : List Value} {g off cap : Nat} (h : OwnS w e n (.slice (some ⟨g, off, none⟩) k cap) k xs) {i : Nat} {ys : List Value} (hy : i + ys.length ≤ k * n) :
    OwnS (w.setCells g (off + i) ys) e n (.slice (some ⟨g, off, none⟩) k cap) k (xs.take i ++ ys ++ xs.drop (i + ys.length)) ∧ Step (· = g) w (w.setCells g (off + i) ys) := by
  refine ⟨⟨?_, ?_⟩, step_sets g ys _ w⟩
  · have := h.1
    simp only [List.length_append, List.length_take, List.length_drop]; omega
  · rcases h.2 with ⟨q, _⟩ | ⟨g', off', cap', cur, q, hg, hc, hm, hs, ht⟩
    · cases q
    · simp only [Value.slice.injEq, Option.some.injEq, Addr.mk.injEq, and_true, true_and] at q
      obtain ⟨⟨rfl, rfl⟩, rfl⟩ := q
      have hmul3 : k * n ≤ cap * n := Nat.mul_le_mul_right _ hc
      have hsz : off + i + ys.length ≤ cur.size := by omega
      have hl := toList_putL ys cur (off + i) hsz
      have hsize : (putL cur (off + i) ys).size = cur.size := by
        rw [← Array.length_toList, hl]; simp; omega
      refine .inr ⟨g, off, cap, _, rfl, blk_sets (w := w) ys (off + i) hg, hc, hm, by rw [hsize]; exact hs, ?_⟩
      rw [hl, ← ht]
      apply List.ext_getElem?
      intro j
      simp only [List.getElem?_take, List.getElem?_drop, List.getElem?_append, List.length_take, List.length_append, List.length_drop, Array.length_toList]
      repeat' split
      all_goals first | rfl | omega | (congr 1; omega) | (exfalso; omega)

section
variable {P : Program} {w : World} {k : Value → World → Prop} {tk : Tag k} {t ty e : TypeId}
/-- An append to it: it is in the same row, or in a new one; nobody else's row has turned. -/
theorem app_at (size bytes : Nat) (ht : P.underlying t = some (.slice e)) (hi : recB P e size bytes = true) {v : Value} {n : Nat} {xs : List Value} (hown : OwnS w e size v n xs)
    {a : Addr} {m c : Nat} (news : List Value) (hl : news.length = m * size) (hnews : ∀ j u, news[j]? = some u → w.cell? (a.add j) = some u) (h1 : ∀ u ∈ news, u.oneCell' = true)
    (h63 : n + m ≤ maxLen) (hbytes : (n + m) * bytes ≤ 140737488355328)
    (h : ∀ v' w', OwnS w' e size v' (n + m) (xs ++ news) → Step (fun g => v.ownBlock = some g) w w' → (∀ g, v'.ownBlock = some g → v.ownBlock = some g ∨ w.heap.size ≤ g) → k v' w') : appF P #[t, t] ty (Shut k tk) v (.slice (some a) m c) w := by
  unfold recB at hi
  split at hi
  · rename_i i hi'
    split at hi
    · rename_i z hz
      simp only [Bool.and_eq_true, beq_iff_eq, decide_eq_true_eq] at hi
      obtain ⟨⟨⟨e1, e2⟩, e3⟩, e4⟩ := hi
      rcases hown.2 with ⟨rfl, rfl⟩ | ⟨g, off, cap, cur, rfl, hg, hc, hm, hs, htk⟩
      · obtain rfl : xs = [] := List.length_eq_zero_iff.1 (by rw [hown.1]; simp)
        obtain ⟨v', w', hr, h2, h3, _⟩ := run_append_own (P := P) w w.heap.size t ty e i z size bytes ht hi' hz e1 e2 e3 e4 _ 0 [] (World.ownsRow_nil w _ e size) a m c news hl hnews h1 h63 hbytes (Nat.le_refl _)
        refine appF_intro hr (h v' w' (.of_row h2) ((Step.refl _ w).grown h3 (fun k hk => by cases hk)) fun g hg => .inr (h2.lt g hg).1)
      · have holds : ∀ j u, xs[j]? = some u → w.cell? ((⟨g, off, none⟩ : Addr).add j) = some u := by
          intro j u hu
          rw [Addr.add_mid, blk_cell hg]
          rw [← htk, List.getElem?_take] at hu
          split at hu
          · rw [List.getElem?_drop] at hu; simpa using hu
          · cases hu
        by_cases hroom : n + m ≤ cap
        · subst e1
          have hmul : (n + m) * i.size ≤ cap * i.size := Nat.mul_le_mul_right _ hroom
          have hadd : (n + m) * i.size = n * i.size + m * i.size := Nat.add_mul ..
          have hr := run_append_room_cells (P := P) w t ty e i ht hi' g off n cap a m c news hl hnews h1 hroom (fun j hj => by rw [blk_cell hg, Array.getElem?_eq_getElem (by omega)]; rfl) (fun j hj => blk_free hg _)
          have hl2 := toList_putL news cur (off + n * i.size) (by omega)
          have hsize : (putL cur (off + n * i.size) news).size = cur.size := by
            rw [← Array.length_toList, hl2]; simp; omega
          refine appF_intro hr (h _ _ ⟨by rw [List.length_append, hown.1, hl, hadd], .inr ⟨g, off, cap, _, rfl, blk_sets (w := w) news _ hg, hroom, hm, by rw [hsize]; exact hs, ?_⟩⟩ ((step_sets g news _ w).mono fun i _ q => by rw [q]; rfl) (fun g' hg' => .inl hg'))
          rw [hl2, ← htk]
          apply List.ext_getElem?
          intro j
          simp only [List.getElem?_take, List.getElem?_drop, List.getElem?_append, List.length_take, List.length_append, List.length_drop, Array.length_toList]
          repeat' split
          all_goals first | rfl | omega | (congr 1; omega) | (exfalso; omega) | (rw [List.getElem?_eq_none (by omega)])
        · obtain ⟨v', w', hr, h2, h3⟩ := run_append_arg_grows (P := P) w t ty e i z size bytes ht hi' hz e1 e2 e3 e4 ⟨g, off, none⟩ n cap xs hown.1 holds a m c news hl hnews (by omega) h63 hbytes
          exact appF_intro hr (h v' w' (.of_row h2) ((Step.refl _ w).grown h3 (fun k hk => by cases hk)) fun g hg => .inr (h2.lt g hg).1)
    · cases hi
  · cases hi
end
end Go.Proofs.YtdfjfagljngciaaGreat
