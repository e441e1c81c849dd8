/- What the bound on the arguments' bulk gives: how great what they hold is. -/
import Derived.Test.YtdfjfagljngciaaGreatTypesZ
import Derived.Test.YtdfjfagljngciaaGreatRows
import Derived.JoinedCond
set_option linter.all false
set_option maxRecDepth 100000
namespace Go.Proofs.YtdfjfagljngciaaGreat
open Go.ChangeShapes Go.WideShapes Go.ChangeAt Go.RowKit Go.Deep Rx

theorem bulk_pos {H : Type} (d : DataW H) : 1 ≤ Rows.uptoBulk d := by
  cases d with
  | lit l => cases l <;> simp [Rows.uptoBulk]
  | nil => simp [Rows.uptoBulk]
  | ptr d => simp [Rows.uptoBulk]
  | slice elems spare => simp [Rows.uptoBulk]
  | agg parts => simp [Rows.uptoBulk]
  | iface t d => simp [Rows.uptoBulk]
  | map entries => simp [Rows.uptoBulk]
  | held h => simp [Rows.uptoBulk]
theorem bulk_part {H : Type} {d : DataW H} {l : List (DataW H)} (h : d ∈ l) : Rows.uptoBulk d ≤ Rows.uptoBulkAll l := by
  induction l with
  | nil => cases h
  | cons x r ih =>
    simp only [Rows.uptoBulkAll]
    cases List.mem_cons.1 h with
    | inl e => subst e; omega
    | inr e => have := ih e; omega
theorem bulk_sum {H α : Type} {D : Nat → DataW H} {wt : α → Nat} {F : Nat → α} : ∀ (l : List Nat), (∀ i ∈ l, wt (F i) ≤ Rows.uptoBulk (D i)) → ((l.map F).map wt).sum ≤ Rows.uptoBulkAll (l.map D)
  | [], _ => by simp
  | i :: l, h => by
    have h1 := h i (List.mem_cons_self ..)
    have h2 := bulk_sum l (fun j hj => h j (List.mem_cons_of_mem _ hj))
    simp only [List.map_cons, List.sum_cons, Rows.uptoBulkAll]
    omega
/-- How cells of a type are opened, and how great what they hold is at most. -/
def OpensW {H α : Type} (enc : TypeId × Value → H) (P : Program) (w : World) (r : Rep α) (t : TypeId) (wt : α → Nat) : Prop :=
  ∀ fuel cs x, DataW.trod enc P w 0 (fun _ => true) true fuel t cs = some x → ∃ y, r.R (fun _ => False) w y cs ∧ wt y ≤ Rows.uptoBulk x.1
section
variable {H : Type} {enc : TypeId × Value → H} {P : Program} {w : World}
theorem opensW_any {α : Type} {r : Rep α} {t : TypeId} (ho : Opens enc P w r t) : OpensW enc P w r t (fun _ => 1) := fun fuel cs x h => by
  obtain ⟨y, hy⟩ := ho fuel cs x h
  exact ⟨y, hy, bulk_pos _⟩
theorem opensW_str {t : TypeId} (ht : P.underlying t = some .string) : OpensW enc P w rStr t (fun s => s.size + 1) := fun fuel cs x h => by
  obtain ⟨s, rfl, rfl, -⟩ := DataW.trod_string ht h
  exact ⟨s, rfl, by simp [Rows.uptoBulk]⟩
theorem openW_fields {t : TypeId} {fs : Array Field} {fuel : Nat} {cs : List Value} {x : DataW H × List MemPlace} (ht : P.underlying t = some (.struct fs)) (h : DataW.trod enc P w 0 (fun _ => true) true fuel t cs = some x) :
    cs.length = P.cellsOf t ∧ ∃ n, ∀ (i : Nat) (f : Field), fs[i]? = some f → ∃ y, DataW.trod enc P w 0 (fun _ => true) true n f.type ((cs.drop f.offset).take (P.cellsOf f.type)) = some y ∧ Rows.uptoBulk y.1 ≤ Rows.uptoBulk x.1 := by
  obtain ⟨xs, n, _, rfl, hl, hlen, hf⟩ := DataW.trod_struct ht h
  refine ⟨hl, n, fun i f hi => ?_⟩
  have hi' := (Array.getElem?_eq_some_iff.1 hi).1
  refine ⟨xs[i]'(by omega), by rw [hf i f hi, List.getElem?_eq_getElem], ?_⟩
  have := bulk_part (d := (xs[i]'(by omega)).1) (l := xs.map (·.1)) (List.mem_map_of_mem (List.getElem_mem _))
  simp only [Rows.uptoBulk]
  omega
theorem opensW_sl {α : Type} [Inhabited α] {r : Rep α} {wt : α → Nat} {t e : TypeId} (hu : P.underlying t = some (.slice e)) (hc : P.cellsOf e = r.n) (ho : OpensW enc P w r e wt) : OpensW enc P w (rSl r) t (fun l => (l.map wt).sum) := by
  intro fuel cs x hf
  rcases open_slice hu hf with ⟨rfl, hx⟩ | ⟨a, len', cap', m, k, D, Pl, rfl, hb, hl, hm, hmm, hx, hcell⟩
  · exact ⟨[], ⟨_, rfl, Sl.nil _ _ _⟩, by simp⟩
  · rw [if_pos rfl] at hmm
    subst hmm
    obtain ⟨F, hF⟩ := choose_lt (n := len') (p := fun i y => (∃ cs, r.R (fun _ => False) w y cs ∧ ∀ j u, cs[j]? = some u → w.cell? ((a.add (i * r.n)).add j) = some u) ∧ wt y ≤ Rows.uptoBulk (D i)) (fun i hi => by
      obtain ⟨cs', h1, h2⟩ := hcell i (by omega)
      obtain ⟨y, hy, hwt⟩ := ho _ _ _ h2
      rw [hc] at h1
      obtain ⟨hbb, hlen, hall⟩ := World.cells?_some h1
      refine ⟨y, ⟨cs', hy, fun j u hu => ?_⟩, hwt⟩
      rw [hall j (by have := (List.getElem?_eq_some_iff.1 hu).1; omega)]; exact hu)
    refine ⟨(List.range len').map F, ⟨_, rfl, some a, m, by simp, by simpa using hl, hm, fun h0 => ?_⟩, ?_⟩
    · simp only [List.length_map, List.length_range] at h0
      obtain ⟨⟨cs0, g1, g3⟩, -⟩ := hF 0 h0
      obtain ⟨b, off, spot⟩ := a
      have hl0 := r.len g1
      have hp := r.pos
      have hc0 := g3 0 (cs0[0]'(by omega)) (List.getElem?_eq_getElem _)
      have hspot : spot = none := by simpa [Addr.add] using World.cell?_spot hc0
      subst hspot
      refine ⟨b, off, rfl, by simpa [Addr.add] using World.block_lt_of_cell? w _ hc0, id, fun i x hx => ?_⟩
      rw [List.getElem?_map] at hx
      obtain ⟨i', hi', rfl⟩ := Option.map_eq_some_iff.1 hx
      have hi2 := List.getElem?_eq_some_iff.1 hi'
      have hi3 : i < len' := by simpa using hi2.1
      have : i' = i := by simpa using hi2.2.symm
      subst this
      obtain ⟨⟨cs, e2, e3⟩, -⟩ := hF i' hi3
      exact ⟨cs, e2, fun j u hu => by have := e3 j u hu; rwa [Addr.add_mid, Addr.add_mid] at this⟩
    · rw [hx]
      simp only [Rows.uptoBulk]
      have := bulk_sum (D := D) (wt := wt) (F := F) (List.range len') (fun i hi => (hF i (List.mem_range.1 hi)).2)
      omega
theorem openW_sl {α : Type} [Inhabited α] {r : Rep α} {wt : α → Nat} {t e : TypeId} (hu : P.underlying t = some (.slice e)) (hc : P.cellsOf e = r.n) (ho : OpensW enc P w r e wt) {base : Nat} {v : Value} {d : DataW H} {p : List MemPlace}
    (hval : Value.okWide P w .any base t v) (h : DataW.Trod enc P w 0 (fun _ => true) true t v d p) : ∃ l, Sl r (fun _ => False) w v l ∧ (l.map wt).sum ≤ Rows.uptoBulk d := by
  obtain ⟨a0, len, cap, rfl⟩ := okWide_slice hu hval
  obtain ⟨fuel, hf⟩ := h
  obtain ⟨l, ⟨v, e, h⟩, hw⟩ := opensW_sl hu hc ho _ _ _ hf
  simp only [Value.cells, List.cons.injEq, and_true] at e
  subst e
  exact ⟨l, h, hw⟩
theorem openW_rec {α : Type} {r : Rep α} {wt : α → Nat} {t : TypeId} {fs : Array Field} (hu : P.underlying t = some (.struct fs)) (ho : OpensW enc P w r t wt) {base : Nat} {v : Value} {d : DataW H} {p : List MemPlace}
    (hval : Value.okWide P w .any base t v) (h : DataW.Trod enc P w 0 (fun _ => true) true t v d p) : ∃ x cs, v = .agg cs.toArray ∧ r.R (fun _ => False) w x cs ∧ wt x ≤ Rows.uptoBulk d := by
  obtain ⟨cs, rfl, hsz⟩ := okWide_struct hu hval
  obtain ⟨fuel, hf⟩ := h
  obtain ⟨x, hx, hw⟩ := ho _ _ _ hf
  exact ⟨x, _, rfl, hx, hw⟩
end
theorem sum_one {α : Type} : ∀ (l : List α), (l.map (fun _ => 1)).sum = l.length
  | [] => rfl
  | _ :: l => by simp only [List.map_cons, List.sum_cons, List.length_cons, sum_one l]; omega
theorem sum_mem {α : Type} {f : α → Nat} : ∀ {l : List α} {x : α}, x ∈ l → f x ≤ (l.map f).sum
  | y :: l, x, h => by
    simp only [List.map_cons, List.sum_cons]
    rcases List.mem_cons.1 h with rfl | q
    · omega
    · have := sum_mem (f := f) q; omega
theorem opensW_Entry {H : Type} {enc : TypeId × Value → H} {w : World} : OpensW enc Tryz.prog w rEntry 110 (fun x => x.name.size + 1) := by
  intro fuel cs x h
  obtain ⟨hl, n, hf⟩ := openW_fields Tryz.underlying110 h
  rw [show Tryz.prog.cellsOf 110 = 2 from by kernel_rfl] at hl
  match cs, hl with
  | [c0, c1], _ =>
    have z0 : Tryz.prog.cellsOf 3 = 1 := by kernel_rfl
    have z1 : Tryz.prog.cellsOf 9 = 1 := by kernel_rfl
    obtain ⟨_, h0, b0⟩ := hf 0 _ rfl
    obtain ⟨_, h1, -⟩ := hf 1 _ rfl
    simp [z0, z1] at h0 h1
    obtain ⟨y0, e0, q0⟩ := (opensW_str Tryz.underlying9) _ _ _ h0
    obtain ⟨y1, e1, k1⟩ := (opens_int Tryz.underlying3) _ _ _ h1
    simp only [rInt, rStr, rYes, rByte, rWord, repOf, List.cons.injEq, and_true] at e0 e1
    subst e0
    subst e1
    exact ⟨⟨y0, y1⟩, ⟨rfl, k1⟩, by simp only at q0 ⊢; omega⟩
theorem opensW_Node {H : Type} {enc : TypeId × Value → H} {w : World} : OpensW enc Tryz.prog w rNode 42 (fun x => (x.names.map (fun y => y.name.size + 1)).sum) := by
  intro fuel cs x h
  obtain ⟨hl, n, hf⟩ := openW_fields Tryz.underlying42 h
  rw [show Tryz.prog.cellsOf 42 = 7 from by kernel_rfl] at hl
  match cs, hl with
  | [c0, c1, c2, c3, c4, c5, c6], _ =>
    have z0 : Tryz.prog.cellsOf 40 = 1 := by kernel_rfl
    have z1 : Tryz.prog.cellsOf 39 = 1 := by kernel_rfl
    have z2 : Tryz.prog.cellsOf 3 = 1 := by kernel_rfl
    obtain ⟨_, h0, -⟩ := hf 0 _ rfl
    obtain ⟨_, h1, -⟩ := hf 1 _ rfl
    obtain ⟨_, h2, -⟩ := hf 2 _ rfl
    obtain ⟨_, h3, -⟩ := hf 3 _ rfl
    obtain ⟨_, h4, -⟩ := hf 4 _ rfl
    obtain ⟨_, h5, -⟩ := hf 5 _ rfl
    obtain ⟨_, h6, b6⟩ := hf 6 _ rfl
    simp [z0, z1, z2] at h0 h1 h2 h3 h4 h5 h6
    obtain ⟨y0, e0, k0⟩ := (opens_int Tryz.underlying3) _ _ _ h0
    obtain ⟨y1, e1, k1⟩ := (opens_int Tryz.underlying3) _ _ _ h1
    obtain ⟨y2, e2, k2⟩ := (opens_int Tryz.underlying3) _ _ _ h2
    obtain ⟨y3, e3, k3⟩ := (opens_int Tryz.underlying3) _ _ _ h3
    obtain ⟨y4, e4, k4⟩ := (opens_int Tryz.underlying3) _ _ _ h4
    obtain ⟨y5, v5, e5, s5⟩ := (opens_sl Tryz.underlying39 (by kernel_rfl) (opens_int Tryz.underlying3)) _ _ _ h5
    obtain ⟨y6, ⟨v6, e6, s6⟩, q6⟩ := (opensW_sl Tryz.underlying40 (by kernel_rfl) opensW_Entry) _ _ _ h6
    simp only [rInt, rStr, rYes, rByte, rWord, repOf, List.cons.injEq, and_true] at e0 e1 e2 e3 e4 e5 e6
    subst e0
    subst e1
    subst e2
    subst e3
    subst e4
    subst e5
    subst e6
    exact ⟨⟨y0, y1, y2, y3, y4, y5, y6⟩, ⟨_, _, rfl, s5, s6, ⟨k0, k1, k2, k3, k4⟩⟩, by simp only at q6 b6 ⊢; omega⟩
theorem bulk_app {H : Type} : ∀ (l r : List (DataW H)), Rows.uptoBulkAll (l ++ r) = Rows.uptoBulkAll l + Rows.uptoBulkAll r
  | [], r => by simp [Rows.uptoBulkAll]
  | x :: l, r => by simp only [List.cons_append, Rows.uptoBulkAll, bulk_app l r]; omega
end Go.Proofs.YtdfjfagljngciaaGreat
