/- Slices of records: what is read in one that came in. -/
import Derived.Test.YthchaodakfnbbaaRow
import Derived.Deep.Slices
set_option linter.all false
namespace Go.Proofs.Ythchaodakfnbbaa
open Go.ChangeShapes Go.WideShapes Go.ChangeAt Go.RowKit Go.Deep

/-- The records l lie behind the address a, each of n cells, that R reads. -/
def SlAt {α : Type} (R : World → α → List Value → Prop) (n : Nat) (w : World) (a : Option Addr) (l : List α) : Prop :=
  0 < l.length → ∃ b off, a = some ⟨b, off, none⟩ ∧ b < w.heap.size ∧ ∀ i x, l[i]? = some x → ∃ cs, cs.length = n ∧ R w x cs ∧ ∀ j u, cs[j]? = some u → w.cell? ⟨b, off + i * n + j, none⟩ = some u

theorem SlAt.keep {α : Type} {R : World → α → List Value → Prop} {n : Nat} {w w' : World} {a : Option Addr} {l : List α} (h : SlAt R n w a l) (hk : Keep w w') (hR : ∀ x cs, R w x cs → R w' x cs) : SlAt R n w' a l := by
  intro h0
  obtain ⟨b, off, e, hb, hc⟩ := h h0
  refine ⟨b, off, e, hk.lt hb, fun i x hx => ?_⟩
  obtain ⟨cs, h1, h2, h3⟩ := hc i x hx
  exact ⟨cs, h1, hR x cs h2, fun j u hu => hk.cell (h3 j u hu) (fun q => q)⟩

theorem open_recs {H : Type} {enc : TypeId × Value → H} {P : Program} {w : World} {α : Type} [Inhabited α] (R : World → α → List Value → Prop) {t e : TypeId} (hu : P.underlying t = some (.slice e)) (n : Nat) (hc : P.cellsOf e = n) (hn : 0 < n)
    (helem : ∀ fuel cs x, DataW.trod enc P w 0 (fun _ => true) true fuel e cs = some x → ∃ y, R w y cs) {base : Nat} {v : Value} {d : DataW H} {p : List MemPlace}
    (hval : Value.okWide P w .any base t v) (h : DataW.Trod enc P w 0 (fun _ => true) true t v d p) : ∃ a l cap, v = .slice a l.length cap ∧ l.length ≤ cap ∧ l.length ≤ maxLen ∧ SlAt R n w a l := by
  obtain ⟨a0, len, cap, rfl⟩ := okWide_slice hu hval
  obtain ⟨fuel, hf⟩ := h
  rcases open_slice hu hf with ⟨hcs, hx⟩ | ⟨a, len', cap', m, k, D, Pl, hcs, hb, hl, hm, hmm, hx, hcell⟩
  · simp only [Value.cells, List.cons.injEq, Value.slice.injEq, and_true] at hcs
    obtain ⟨rfl, rfl, rfl⟩ := hcs
    exact ⟨none, [], 0, rfl, Nat.le_refl _, Nat.zero_le _, fun q => absurd q (by simp)⟩
  · simp only [Value.cells, List.cons.injEq, Value.slice.injEq, and_true] at hcs
    obtain ⟨rfl, rfl, rfl⟩ := hcs
    rw [if_pos rfl] at hmm
    subst hmm
    obtain ⟨F, hF⟩ := choose_lt (n := len) (p := fun i y => ∃ cs, cs.length = n ∧ R w y cs ∧ ∀ j u, cs[j]? = some u → w.cell? ((a.add (i * n)).add j) = some u) (fun i hi => by
      obtain ⟨cs', h1, h2⟩ := hcell i (by omega)
      obtain ⟨y, hy⟩ := helem _ _ _ h2
      rw [hc] at h1
      obtain ⟨hbb, hlen, hall⟩ := World.cells?_some h1
      refine ⟨y, cs', hlen, hy, fun j u hu => ?_⟩
      rw [hall j (by have := (List.getElem?_eq_some_iff.1 hu).1; omega)]; exact hu)
    refine ⟨some a, (List.range len).map F, m, by simp, by simpa using hl, by simp; omega, fun h0 => ?_⟩
    simp only [List.length_map, List.length_range] at h0
    obtain ⟨cs0, g1, -, g3⟩ := hF 0 h0
    obtain ⟨b, off, spot⟩ := a
    have hc0 := g3 0 (cs0[0]'(by omega)) (List.getElem?_eq_getElem _)
    have hspot : spot = none := by simpa [Addr.add] using World.cell?_spot hc0
    subst hspot
    refine ⟨b, off, rfl, by simpa [Addr.add] using World.block_lt_of_cell? w _ hc0, fun i x hx => ?_⟩
    rw [List.getElem?_map] at hx
    obtain ⟨i', hi', rfl⟩ := Option.map_eq_some_iff.1 hx
    have hi2 := List.getElem?_eq_some_iff.1 hi'
    have hi3 : i < len := by simpa using hi2.1
    have : i' = i := by simpa using hi2.2.symm
    subst this
    obtain ⟨cs, e1, e2, e3⟩ := hF i' hi3
    exact ⟨cs, e1, e2, fun j u hu => by have := e3 j u hu; rwa [Addr.add_mid, Addr.add_mid] at this⟩
end Go.Proofs.Ythchaodakfnbbaa
