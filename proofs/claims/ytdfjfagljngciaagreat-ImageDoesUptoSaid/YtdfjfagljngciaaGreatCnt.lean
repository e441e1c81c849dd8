/- A map of counters: what is looked up, and what is stored. -/
import Derived.Test.YtdfjfagljngciaaGreatMap
set_option linter.all false
set_option maxRecDepth 100000
set_option maxHeartbeats 4000000
namespace Go.Proofs.YtdfjfagljngciaaGreat
open Go.RowKit Rx Go.MapKept

def CntE (c : Int → Int) (es : List MapEntry) : Prop := (∀ x ∈ es, ∃ i, x.key = .int .i64 i ∧ x.val = .int .i64 (c i)) ∧ ∀ i, c i ≠ 0 → ∃ x ∈ es, x.key = .int .i64 i
/-- Block m is a map of counters. -/
def MapC (w : World) (m : Nat) (c : Int → Int) : Prop := ∃ es clock, w.heap[m]? = some (.map es clock) ∧ Stamped es clock ∧ CntE c es.toList
theorem CntE.isKey {c : Int → Int} {es : List MapEntry} (h : CntE c es) : ∀ x ∈ es, IsKey (.int .i64) x.key := fun x hx => by
  obtain ⟨i, q, -⟩ := h.1 x hx
  rw [q]; exact rfl
theorem MapC.step {O : Nat → Prop} {w w' : World} {m : Nat} {c : Int → Int} (h : MapC w m c) (hs : Step O w w') (hm : ¬ O m) : MapC w' m c := by
  obtain ⟨es, k, h1, h2, h3⟩ := h
  exact ⟨es, k, hs.blk h1 hm, h2, h3⟩
theorem MapC.keep {w w' : World} {m : Nat} {c : Int → Int} (h : MapC w m c) (hs : Keep w w') : MapC w' m c := h.step hs id
theorem MapC.fresh (w : World) : MapC (w.alloc (.map #[] 0)) w.heap.size (fun _ => 0) := ⟨#[], 0, heap_alloc_new w _, stamped_empty 0, by simp [CntE]⟩
theorem zero_int (w : World) : (zeroValue 3).run Tryz.prog w = .ok (.int .i64 0) w := by
  simp [go_sem]
theorem MapC.look {w : World} {m : Nat} {c : Int → Int} (h : MapC w m c) (k : Int) : (Instr.lookup 163 (.map (some m)) (.int .i64 k) false).run Tryz.prog w = .ok (.int .i64 (c k)) w := by
  obtain ⟨es, cl, hb, hs, he⟩ := h
  have hm := Tryz.underlying163
  have hk := Tryz.underlying3
  rcases findNow_spec (d := .int .i64) (k := .int .i64 k) rfl es.toList 0 he.isKey with ⟨h1, h2⟩ | ⟨j, e, h1, h2, h3⟩
  · have h0 : c k = 0 := by
      rcases Decidable.em (c k = 0) with q | q
      · exact q
      · obtain ⟨x, hx, hxk⟩ := he.2 k q
        exact absurd hxk (h2 x hx)
    simp [Instr.lookup, run_underlying hm, MapKept.run_getObj_map hb, run_checkKey hk (k := .int .i64 k) rfl, run_findKey hk h1, zero_int, Result.andThen, h0]
  · obtain ⟨i, g1, g2⟩ := he.1 e (List.mem_of_getElem? h2)
    have : i = k := by rw [g1] at h3; simpa using h3
    subst this
    simp [Instr.lookup, run_underlying hm, MapKept.run_getObj_map hb, run_checkKey hk (k := .int .i64 i) rfl, run_findKey hk h1, Result.andThen, g2]
theorem MapC.upd {w : World} {m : Nat} {c : Int → Int} (h : MapC w m c) (k v : Int) :
    ∃ w', (Instr.mapUpdate 163 (.map (some m)) (.int .i64 k) (.int .i64 v)).run Tryz.prog w = .ok () w' ∧ MapC w' m (fun i => if i = k then v else c i) ∧ Step (fun k => k = m) w w' := by
  obtain ⟨es, cl, hb, hs, he⟩ := h
  have hm := Tryz.underlying163
  have hk := Tryz.underlying3
  rcases findNow_spec (d := .int .i64) (k := .int .i64 k) rfl es.toList 0 he.isKey with ⟨h1, h2⟩ | ⟨j, e, h1, h2, h3⟩
  · refine ⟨{ w with heap := w.heap.setIfInBounds m (.map (es.push { key := .int .i64 k, val := .int .i64 v, born := cl }) (cl + 1)) }, ?_, ⟨_, _, (heap_set hb).1, stamped_push hs h2, ?_, ?_⟩, Step.map _⟩
    · simp [Instr.mapUpdate, run_underlying hm, MapKept.run_getObj_map hb, run_checkKey hk (k := .int .i64 k) rfl, run_findKey hk h1, run_setObj_map _ hb, Result.andThen]
    · intro x hx
      simp only [Array.toList_push, List.mem_append, List.mem_singleton] at hx
      rcases hx with hx | rfl
      · obtain ⟨i, q1, q2⟩ := he.1 x hx
        exact ⟨i, q1, by show x.val = .int .i64 (if i = k then v else c i); rw [if_neg (fun q => h2 x hx (by rw [q1, q]))]; exact q2⟩
      · exact ⟨k, rfl, by show Value.int .i64 v = .int .i64 (if k = k then v else c k); rw [if_pos rfl]⟩
    · intro i hi
      by_cases g : i = k
      · exact ⟨_, by simp; exact .inr rfl, by rw [g]⟩
      · change (if i = k then v else c i) ≠ 0 at hi
        rw [if_neg g] at hi
        obtain ⟨x, hx, q⟩ := he.2 i hi
        exact ⟨x, by simp [hx], q⟩
  · have hj : es[j]? = some e := by simpa using h2
    refine ⟨{ w with heap := w.heap.setIfInBounds m (.map (es.modify j fun e => { e with key := .int .i64 k, val := .int .i64 v }) cl) }, ?_, ⟨_, _, (heap_set hb).1, stamped_modify hs _ _ (fun _ _ => rfl) (fun e' _ he' => by rw [hj] at he'; cases he'; exact h3.symm), ?_, ?_⟩, Step.map _⟩
    · simp [Instr.mapUpdate, run_underlying hm, MapKept.run_getObj_map hb, run_checkKey hk (k := .int .i64 k) rfl, run_findKey hk h1, hj, h3, run_keyThatStays (d := .int .i64) (k := .int .i64 k) rfl, run_setObj_map _ hb, Result.andThen]
    · intro x hx
      obtain ⟨i', z, hz, rfl⟩ := mem_modify.1 hx
      by_cases q : j = i'
      · rw [if_pos q]
        exact ⟨k, rfl, by show Value.int .i64 v = .int .i64 (if k = k then v else c k); rw [if_pos rfl]⟩
      · rw [if_neg q]
        obtain ⟨i, q1, q2⟩ := he.1 z (List.mem_of_getElem? hz)
        exact ⟨i, q1, by show z.val = .int .i64 (if i = k then v else c i); rw [if_neg (fun g => q (keys_apart hs h2 hz (by rw [h3, q1, g])))]; exact q2⟩
    · intro i hi
      by_cases g : i = k
      · exact ⟨_, mem_modify.2 ⟨j, e, h2, by rw [if_pos rfl]⟩, by rw [g]⟩
      · change (if i = k then v else c i) ≠ 0 at hi
        rw [if_neg g] at hi
        obtain ⟨x, hx, q⟩ := he.2 i hi
        obtain ⟨i', hi'⟩ := List.mem_iff_getElem?.1 hx
        refine ⟨x, mem_modify.2 ⟨i', x, hi', ?_⟩, q⟩
        rw [if_neg]
        rintro rfl
        rw [h2] at hi'
        have := Option.some.inj hi'
        rw [← this, h3] at q
        simp at q
        exact g q.symm
end Go.Proofs.YtdfjfagljngciaaGreat
