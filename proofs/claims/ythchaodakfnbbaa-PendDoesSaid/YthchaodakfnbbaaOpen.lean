/- What an argument of a law holds: effects, slices within records, yes and no. -/
import Derived.Test.YthchaodakfnbbaaEff
import Derived.Deep.Strs
set_option linter.all false
namespace Go.Proofs.Ythchaodakfnbbaa
open Go.ChangeShapes Go.WideShapes Go.ChangeAt Go.RowKit Go.Joins Go.Deep

section
variable {H : Type} {enc : TypeId × Value → H} {P : Program} {w : World}
/-- A record's fields are read each by itself. -/
theorem open_fields {t : TypeId} {fs : Array Field} {fuel : Nat} {cs : List Value} {x : DataW H × List MemPlace} (ht : P.underlying t = some (.struct fs)) (h : DataW.trod enc P w 0 (fun _ => true) true fuel t cs = some x) :
    cs.length = P.cellsOf t ∧ ∃ n, ∀ (i : Nat) (f : Field), fs[i]? = some f → ∃ y, DataW.trod enc P w 0 (fun _ => true) true n f.type ((cs.drop f.offset).take (P.cellsOf f.type)) = some y := by
  obtain ⟨xs, n, _, rfl, hl, hlen, hf⟩ := DataW.trod_struct ht h
  refine ⟨hl, n, fun i f hi => ?_⟩
  have hi' := (Array.getElem?_eq_some_iff.1 hi).1
  exact ⟨xs[i]'(by omega), by rw [hf i f hi, List.getElem?_eq_getElem]⟩

/-- A slice that lies in memory. -/
theorem recs_of_trod {α : Type} [Inhabited α] (R : World → α → List Value → Prop) {t e : TypeId} (hu : P.underlying t = some (.slice e)) (n : Nat) (hc : P.cellsOf e = n) (hn : 0 < n)
    (helem : ∀ fuel cs x, DataW.trod enc P w 0 (fun _ => true) true fuel e cs = some x → ∃ y, R w y cs) {fuel : Nat} {cs : List Value} {x : DataW H × List MemPlace}
    (hf : DataW.trod enc P w 0 (fun _ => true) true fuel t cs = some x) : ∃ a l cap, cs = [.slice a l.length cap] ∧ l.length ≤ cap ∧ l.length ≤ maxLen ∧ SlAt R n w a l := by
  rcases open_slice hu hf with ⟨hcs, hx⟩ | ⟨a, len', cap', m, k, D, Pl, hcs, hb, hl, hm, hmm, hx, hcell⟩
  · exact ⟨none, [], 0, hcs, Nat.le_refl _, Nat.zero_le _, fun q => absurd q (by simp)⟩
  · rw [if_pos rfl] at hmm
    subst hmm
    obtain ⟨F, hF⟩ := choose_lt (n := len') (p := fun i y => ∃ cs, cs.length = n ∧ R w y cs ∧ ∀ j u, cs[j]? = some u → w.cell? ((a.add (i * n)).add j) = some u) (fun i hi => by
      obtain ⟨cs', h1, h2⟩ := hcell i (by omega)
      obtain ⟨y, hy⟩ := helem _ _ _ h2
      rw [hc] at h1
      obtain ⟨hbb, hlen, hall⟩ := World.cells?_some h1
      refine ⟨y, cs', hlen, hy, fun j u hu => ?_⟩
      rw [hall j (by have := (List.getElem?_eq_some_iff.1 hu).1; omega)]; exact hu)
    refine ⟨some a, (List.range len').map F, m, by simpa using hcs, by simpa using hl, by simp; omega, fun h0 => ?_⟩
    simp only [List.length_map, List.length_range] at h0
    obtain ⟨cs0, g1, -, g3⟩ := hF 0 h0
    obtain ⟨b, off, spot⟩ := a
    have hc0 := g3 0 (cs0[0]'(by omega)) (List.getElem?_eq_getElem _)
    have hspot : spot = none := by simpa [Addr.add] using World.cell?_spot hc0
    subst hspot
    refine ⟨b, off, rfl, by simpa [Addr.add] using World.block_lt_of_cell? w _ hc0, fun i x hx => ?_⟩
    rw [List.getElem?_map] at hx
    obtain ⟨i', hi', rfl⟩ := Option.map_eq_some_iff.1 hx
    have hi2 := List.getElem?_eq_some_iff.1 hi'
    have hi3 : i < len' := by simpa using hi2.1
    have : i' = i := by simpa using hi2.2.symm
    subst this
    obtain ⟨cs, e1, e2, e3⟩ := hF i' hi3
    exact ⟨cs, e1, e2, fun j u hu => by have := e3 j u hu; rwa [Addr.add_mid, Addr.add_mid] at this⟩
theorem open_byte {t : TypeId} (ht : P.underlying t = some (.int .u8)) {fuel : Nat} {cs : List Value} {x : DataW H × List MemPlace} (h : DataW.trod enc P w 0 (fun _ => true) true fuel t cs = some x) : ∃ b, RB w b cs := by
  obtain ⟨n, rfl, -, hw⟩ := DataW.trod_int ht h
  have : 0 ≤ n ∧ n ≤ 255 := by simpa [Lit.wf, IntKind.min, IntKind.max, IntKind.signed, IntKind.bits] using hw
  refine ⟨UInt8.ofNat n.toNat, ?_⟩
  unfold RB
  have : ((UInt8.ofNat n.toNat).toNat : Int) = n := by rw [UInt8.toNat_ofNat']; omega
  rw [this]
/-- Yes or no. -/
def RY (_ : World) (b : Bool) (cs : List Value) : Prop := cs = [.bool b]
theorem open_yes {t : TypeId} (ht : P.underlying t = some .bool) {fuel : Nat} {cs : List Value} {x : DataW H × List MemPlace} (h : DataW.trod enc P w 0 (fun _ => true) true fuel t cs = some x) : ∃ b, RY w b cs := by
  obtain ⟨b, rfl, -⟩ := DataW.trod_bool ht h
  exact ⟨b, rfl⟩
end

/-- An effect, read. -/
theorem open_eff {H : Type} {enc : TypeId × Value → H} {w : World} {fuel : Nat} {cs : List Value} {x : DataW H × List MemPlace} (h : DataW.trod enc Try.prog w 0 (fun _ => true) true fuel 53 cs = some x) : ∃ e : Eff, RE w e cs := by
  obtain ⟨hl, n, hf⟩ := open_fields Try.underlying53 h
  have z3 : Try.prog.cellsOf 3 = 1 := by kernel_rfl
  have z9 : Try.prog.cellsOf 9 = 1 := by kernel_rfl
  have zb : Try.prog.cellsOf 51 = 1 := by kernel_rfl
  rw [show Try.prog.cellsOf 53 = 9 from by kernel_rfl] at hl
  match cs, hl with
  | [c0, c1, c2, c3, c4, c5, c6, c7, c8], _ =>
    obtain ⟨_, h0⟩ := hf 0 _ rfl
    obtain ⟨_, h1⟩ := hf 1 _ rfl
    obtain ⟨_, h2⟩ := hf 2 _ rfl
    obtain ⟨_, h3⟩ := hf 3 _ rfl
    obtain ⟨_, h4⟩ := hf 4 _ rfl
    obtain ⟨_, h5⟩ := hf 5 _ rfl
    obtain ⟨_, h6⟩ := hf 6 _ rfl
    obtain ⟨_, h7⟩ := hf 7 _ rfl
    obtain ⟨_, h8⟩ := hf 8 _ rfl
    simp [z3, z9, zb] at h0 h1 h2 h3 h4 h5 h6 h7 h8
    obtain ⟨n0, e0, -, -⟩ := DataW.trod_int Try.underlying3 h0
    obtain ⟨n1, e1, -, -⟩ := DataW.trod_int Try.underlying3 h1
    obtain ⟨n2, e2, -, -⟩ := DataW.trod_int Try.underlying3 h2
    obtain ⟨n3, e3, -, -⟩ := DataW.trod_int Try.underlying3 h3
    obtain ⟨n4, e4, -, -⟩ := DataW.trod_int Try.underlying3 h4
    obtain ⟨n5, e5, -, -⟩ := DataW.trod_int Try.underlying3 h5
    obtain ⟨n6, e6, -, -⟩ := DataW.trod_string Try.underlying9 h6
    obtain ⟨n7, e7, -, -⟩ := DataW.trod_string Try.underlying9 h7
    obtain ⟨a, l, cap, e8, -, -, s8⟩ := recs_of_trod RB Try.underlying51 1 (by kernel_rfl) (by omega) (fun _ _ _ h => open_byte Try.underlying5 h) h8
    simp only [List.cons.injEq, and_true] at e0 e1 e2 e3 e4 e5 e6 e7 e8
    subst e0 e1 e2 e3 e4 e5 e6 e7 e8
    exact ⟨⟨⟨n0, n1, n2, n3, n4, n5, n6, n7⟩, l⟩, _, rfl, ⟨_, _, rfl, s8⟩⟩
end Go.Proofs.Ythchaodakfnbbaa
