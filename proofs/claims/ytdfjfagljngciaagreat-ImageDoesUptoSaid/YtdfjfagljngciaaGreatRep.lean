/- What lies in memory and is only read, of any kind: how many cells it has, what they read as. X: the blocks that somebody writes; none of them is looked into. -/
import Derived.Test.YtdfjfagljngciaaGreatOwn
import Derived.Deep.Slices
import Derived.Deep.Strs
import Derived.ProofKit
import Derived.OpenShut
import Derived.Lib.SmallJoins
import Derived.Laws.BytesString
set_option linter.all false
namespace Go.Proofs.YtdfjfagljngciaaGreat
open Go.ChangeShapes Go.WideShapes Go.ChangeAt Go.RowKit Go.Deep Rx

structure Rep (α : Type) where
  n : Nat
  pos : 0 < n
  R : (Nat → Prop) → World → α → List Value → Prop
  len : ∀ {X : Nat → Prop} {w : World} {x : α} {cs : List Value}, R X w x cs → cs.length = n
  step : ∀ {X : Nat → Prop} {w w' : World} {x : α} {cs : List Value} {O : Nat → Prop}, R X w x cs → Step O w w' → (∀ k, O k → X k) → R X w' x cs
  mono : ∀ {X Y : Nat → Prop} {w : World} {x : α} {cs : List Value}, R X w x cs → (∀ k, k < w.heap.size → Y k → X k) → R Y w x cs
theorem Rep.keep {α : Type} (r : Rep α) {X : Nat → Prop} {w w' : World} {x : α} {cs : List Value} (h : r.R X w x cs) (k : Keep w w') : r.R X w' x cs := r.step h k (fun _ q => q.elim)

/-- A thing whose cells say all. -/
def repOf {α : Type} (n : Nat) (pos : 0 < n) (enc : α → List Value) (hn : ∀ x, (enc x).length = n) : Rep α where
  n := n
  pos := pos
  R := fun _ _ x cs => cs = enc x
  len := by rintro _ _ x _ rfl; exact hn x
  step := by intro _ _ _ _ _ _ h _ _; exact h
  mono := by intro _ _ _ _ _ h _; exact h
/-- What an int may be. -/
def I64 (n : Int) : Prop := -9223372036854775808 ≤ n ∧ n ≤ 9223372036854775807
def rInt : Rep Int where
  n := 1
  pos := by omega
  R := fun _ _ n cs => cs = [.int .i64 n] ∧ I64 n
  len := by rintro _ _ x _ ⟨rfl, -⟩; rfl
  step := by intro _ _ _ _ _ _ h _ _; exact h
  mono := by intro _ _ _ _ _ h _; exact h
def rYes : Rep Bool := repOf 1 (by omega) (fun b => [.bool b]) (fun _ => rfl)
def rStr : Rep ByteArray := repOf 1 (by omega) (fun b => [.string b]) (fun _ => rfl)
def rByte : Rep UInt8 := repOf 1 (by omega) (fun b => [.int .u8 b.toNat]) (fun _ => rfl)
def rWord : Rep UInt64 := repOf 1 (by omega) (fun b => [.int .u64 b.toNat]) (fun _ => rfl)

/-- The slice v reads l. -/
def Sl {α : Type} (r : Rep α) (X : Nat → Prop) (w : World) (v : Value) (l : List α) : Prop :=
  ∃ a c, v = .slice a l.length c ∧ l.length ≤ c ∧ c ≤ maxLen ∧ (0 < l.length → ∃ b off, a = some ⟨b, off, none⟩ ∧ b < w.heap.size ∧ ¬ X b ∧
    ∀ i x, l[i]? = some x → ∃ cs, r.R X w x cs ∧ ∀ j u, cs[j]? = some u → w.cell? ⟨b, off + i * r.n + j, none⟩ = some u)
section
variable {α : Type} {r : Rep α} {X Y O : Nat → Prop} {w w' : World} {v : Value} {l : List α}
theorem Sl.step (h : Sl r X w v l) (hs : Step O w w') (ho : ∀ k, O k → X k) : Sl r X w' v l := by
  obtain ⟨a, c, e, h1, h2, h3⟩ := h
  refine ⟨a, c, e, h1, h2, fun h0 => ?_⟩
  obtain ⟨b, off, e', hb, hx, hc⟩ := h3 h0
  refine ⟨b, off, e', hs.lt hb, hx, fun i x hi => ?_⟩
  obtain ⟨cs, h4, h5⟩ := hc i x hi
  exact ⟨cs, r.step h4 hs ho, fun j u hu => hs.cell (h5 j u hu) (fun q => hx (ho _ q))⟩
theorem Sl.keep (h : Sl r X w v l) (hs : Keep w w') : Sl r X w' v l := h.step hs (fun _ q => q.elim)
theorem Sl.mono (h : Sl r X w v l) (hm : ∀ k, k < w.heap.size → Y k → X k) : Sl r Y w v l := by
  obtain ⟨a, c, e, h1, h2, h3⟩ := h
  refine ⟨a, c, e, h1, h2, fun h0 => ?_⟩
  obtain ⟨b, off, e', hb, hx, hc⟩ := h3 h0
  refine ⟨b, off, e', hb, fun q => hx (hm b hb q), fun i x hi => ?_⟩
  obtain ⟨cs, h4, h5⟩ := hc i x hi
  exact ⟨cs, r.mono h4 hm, h5⟩
theorem Sl.nil (r : Rep α) (X : Nat → Prop) (w : World) : Sl r X w (.slice none 0 0) [] := ⟨none, 0, rfl, Nat.le_refl _, Nat.zero_le _, fun q => absurd q (by simp)⟩
theorem Sl.len (h : Sl r X w v l) : l.length ≤ maxLen := by
  obtain ⟨a, c, e, h1, h2, h3⟩ := h
  omega
/-- An element's cells. -/
theorem Sl.elt (h : Sl r X w v l) {i : Nat} {x : α} (hx : l[i]? = some x) : ∃ b off c cs, v = .slice (some ⟨b, off, none⟩) l.length c ∧ b < w.heap.size ∧ ¬ X b ∧ r.R X w x cs ∧ ∀ j u, cs[j]? = some u → w.cell? ⟨b, off + i * r.n + j, none⟩ = some u := by
  obtain ⟨a, c, rfl, h1, h2, h3⟩ := h
  obtain ⟨b, off, rfl, hb, hX, hc⟩ := h3 (by have := (List.getElem?_eq_some_iff.1 hx).1; omega)
  obtain ⟨cs, h4, h5⟩ := hc i x hx
  exact ⟨b, off, c, cs, rfl, hb, hX, h4, h5⟩
/-- A part of it. -/
theorem Sl.cut (h : Sl r X w v l) {i m : Nat} (hi : i ≤ m) (hm : m ≤ l.length) : ∃ a c, v = .slice a l.length c ∧ l.length ≤ c ∧ c ≤ maxLen ∧ Sl r X w (sliced a i m c r.n) ((l.drop i).take (m - i)) := by
  obtain ⟨a, c, rfl, h1, h2, h3⟩ := h
  have hlen : ((l.drop i).take (m - i)).length = m - i := by rw [List.length_take, List.length_drop]; omega
  refine ⟨a, c, rfl, h1, h2, if c = i then a else a.map (·.add (i * r.n)), c - i, ?_, by omega, by omega, fun h0 => ?_⟩
  · rw [hlen]; rfl
  · obtain ⟨b, off, rfl, hb, hX, hc⟩ := h3 (by omega)
    refine ⟨b, off + i * r.n, ?_, hb, hX, fun k x hk => ?_⟩
    · rw [if_neg (by omega)]; simp [Addr.add_mid]
    · rw [List.getElem?_take] at hk
      split at hk
      · rw [List.getElem?_drop] at hk
        obtain ⟨cs, h4, h5⟩ := hc (i + k) x hk
        exact ⟨cs, h4, fun j u hu => by rw [← h5 j u hu, Nat.add_mul]; congr 2; omega⟩
      · cases hk
/-- A slice of one's own is read as any other. -/
theorem Sl.of_own {β : Type} {e : TypeId} {n k : Nat} (f : β → List Value) (g : β → α) {l : List β} (h : OwnS w e n v k (l.flatMap f)) (hk : k = l.length) (hn : n = r.n) (hR : ∀ x ∈ l, r.R X w (g x) (f x)) (hX : ∀ b, v.ownBlock = some b → ¬ X b) : Sl r X w v (l.map g) := by
  subst hk hn
  obtain ⟨a, c, rfl, hc, hm, hs⟩ := h.slice
  refine ⟨a, c, by rw [List.length_map], by rw [List.length_map]; exact hc, hm, fun hl => ?_⟩
  rw [List.length_map] at hl
  obtain ⟨b, off, rfl, hb, hob, hcell, -⟩ := hs hl
  refine ⟨b, off, rfl, hb, hX b hob, fun i y hy => ?_⟩
  rw [List.getElem?_map] at hy
  obtain ⟨x, hx, rfl⟩ := Option.map_eq_some_iff.1 hy
  refine ⟨f x, hR x (List.mem_of_getElem? hx), fun j u hu => ?_⟩
  have hn : ∀ y ∈ l, (f y).length = r.n := fun y hy => r.len (hR y hy)
  have hj : j < r.n := by have := (List.getElem?_eq_some_iff.1 hu).1; rw [hn x (List.mem_of_getElem? hx)] at this; exact this
  rw [Nat.add_assoc]
  refine hcell _ _ ?_
  clear hcell hs h hc hm hX hR hl hob hy
  induction l generalizing i with
  | nil => cases hx
  | cons z l ih =>
    rw [List.flatMap_cons]
    have hz := hn z (List.mem_cons_self ..)
    cases i with
    | zero =>
      simp only [List.getElem?_cons_zero, Option.some.injEq] at hx
      subst hx
      rw [Nat.zero_mul, Nat.zero_add, List.getElem?_append_left (by omega)]; exact hu
    | succ i =>
      rw [List.getElem?_append_right (by rw [hz, Nat.add_mul]; omega), hz, show (i + 1) * r.n + j - r.n = i * r.n + j from by rw [Nat.add_mul]; omega]
      exact ih i (by simpa using hx) (fun y hy => hn y (List.mem_cons_of_mem _ hy))
theorem Sl.of_ints {e : TypeId} {k : Nat} {l : List Int} (h : OwnS w e 1 v k (l.map (Value.int .i64))) (h64 : ∀ x ∈ l, I64 x) (hX : ∀ b, v.ownBlock = some b → ¬ X b) : Sl rInt X w v l := by
  have hk : k = l.length := by have := h.1; simp at this; omega
  have := Sl.of_own (r := rInt) (X := X) (fun n : Int => [Value.int .i64 n]) id (l := l) (by rw [← List.map_eq_flatMap]; exact h) hk rfl (fun x hx => ⟨rfl, h64 x hx⟩) hX
  simpa using this
end
/-- A slice within a record. -/
def rSl {α : Type} (r : Rep α) : Rep (List α) where
  n := 1
  pos := by omega
  R := fun X w l cs => ∃ v, cs = [v] ∧ Sl r X w v l
  len := by rintro _ _ _ _ ⟨v, rfl, -⟩; rfl
  step := by rintro _ _ _ _ _ _ ⟨v, rfl, h⟩ hs ho; exact ⟨v, rfl, h.step hs ho⟩
  mono := by rintro _ _ _ _ _ ⟨v, rfl, h⟩ hm; exact ⟨v, rfl, h.mono hm⟩
section
variable {X : Nat → Prop} {w : World} {v : Value}
theorem Sl.int {l : List Int} (h : Sl rInt X w v l) {i : Nat} {x : Int} (hx : l[i]? = some x) : ∃ b off c, v = .slice (some ⟨b, off, none⟩) l.length c ∧ b < w.heap.size ∧ ¬ X b ∧ w.cell? ⟨b, off + i, none⟩ = some (.int .i64 x) ∧ I64 x := by
  obtain ⟨b, off, c, cs, e, hb, hX, ⟨rfl, h64⟩, hc⟩ := h.elt hx
  exact ⟨b, off, c, e, hb, hX, by simpa [rInt] using hc 0 _ rfl, h64⟩
theorem Sl.word {l : List UInt64} (h : Sl rWord X w v l) {i : Nat} {x : UInt64} (hx : l[i]? = some x) : ∃ b off c, v = .slice (some ⟨b, off, none⟩) l.length c ∧ b < w.heap.size ∧ ¬ X b ∧ w.cell? ⟨b, off + i, none⟩ = some (.int .u64 x.toNat) := by
  obtain ⟨b, off, c, cs, e, hb, hX, rfl, hc⟩ := h.elt hx
  exact ⟨b, off, c, e, hb, hX, by simpa [rWord, repOf] using hc 0 _ rfl⟩
theorem Sl.byte {l : List UInt8} (h : Sl rByte X w v l) {i : Nat} {x : UInt8} (hx : l[i]? = some x) : ∃ b off c, v = .slice (some ⟨b, off, none⟩) l.length c ∧ b < w.heap.size ∧ ¬ X b ∧ w.cell? ⟨b, off + i, none⟩ = some (.int .u8 x.toNat) := by
  obtain ⟨b, off, c, cs, e, hb, hX, rfl, hc⟩ := h.elt hx
  exact ⟨b, off, c, e, hb, hX, by simpa [rByte, repOf] using hc 0 _ rfl⟩
theorem Sl.yes {l : List Bool} (h : Sl rYes X w v l) {i : Nat} {x : Bool} (hx : l[i]? = some x) : ∃ b off c, v = .slice (some ⟨b, off, none⟩) l.length c ∧ b < w.heap.size ∧ ¬ X b ∧ w.cell? ⟨b, off + i, none⟩ = some (.bool x) := by
  obtain ⟨b, off, c, cs, e, hb, hX, rfl, hc⟩ := h.elt hx
  exact ⟨b, off, c, e, hb, hX, by simpa [rYes, repOf] using hc 0 _ rfl⟩
theorem Sl.str {l : List ByteArray} (h : Sl rStr X w v l) {i : Nat} {x : ByteArray} (hx : l[i]? = some x) : ∃ b off c, v = .slice (some ⟨b, off, none⟩) l.length c ∧ b < w.heap.size ∧ ¬ X b ∧ w.cell? ⟨b, off + i, none⟩ = some (.string x) := by
  obtain ⟨b, off, c, cs, e, hb, hX, rfl, hc⟩ := h.elt hx
  exact ⟨b, off, c, e, hb, hX, by simpa [rStr, repOf] using hc 0 _ rfl⟩
end

/-! What an argument of a law holds. -/
section
variable {H : Type} {enc : TypeId × Value → H} {P : Program} {w : World}
/-- How cells of a type are opened. -/
def Opens {α : Type} (enc : TypeId × Value → H) (P : Program) (w : World) (r : Rep α) (t : TypeId) : Prop := ∀ fuel cs x, DataW.trod enc P w 0 (fun _ => true) true fuel t cs = some x → ∃ y, r.R (fun _ => False) w y cs
theorem open_fields {t : TypeId} {fs : Array Field} {fuel : Nat} {cs : List Value} {x : DataW H × List MemPlace} (ht : P.underlying t = some (.struct fs)) (h : DataW.trod enc P w 0 (fun _ => true) true fuel t cs = some x) :
    cs.length = P.cellsOf t ∧ ∃ n, ∀ (i : Nat) (f : Field), fs[i]? = some f → ∃ y, DataW.trod enc P w 0 (fun _ => true) true n f.type ((cs.drop f.offset).take (P.cellsOf f.type)) = some y := by
  obtain ⟨xs, n, _, rfl, hl, hlen, hf⟩ := DataW.trod_struct ht h
  refine ⟨hl, n, fun i f hi => ?_⟩
  have hi' := (Array.getElem?_eq_some_iff.1 hi).1
  exact ⟨xs[i]'(by omega), by rw [hf i f hi, List.getElem?_eq_getElem]⟩
theorem opens_int {t : TypeId} (ht : P.underlying t = some (.int .i64)) : Opens enc P w rInt t := by
  intro fuel cs x h
  obtain ⟨n, rfl, -, hw⟩ := DataW.trod_int ht h
  exact ⟨n, rfl, by simpa [Lit.wf, IntKind.min, IntKind.max, IntKind.signed, IntKind.bits, I64] using hw⟩
theorem opens_yes {t : TypeId} (ht : P.underlying t = some .bool) : Opens enc P w rYes t := by
  intro fuel cs x h
  obtain ⟨n, rfl, -⟩ := DataW.trod_bool ht h
  exact ⟨n, rfl⟩
theorem opens_str {t : TypeId} (ht : P.underlying t = some .string) : Opens enc P w rStr t := by
  intro fuel cs x h
  obtain ⟨n, rfl, -⟩ := DataW.trod_string ht h
  exact ⟨n, rfl⟩
theorem opens_byte {t : TypeId} (ht : P.underlying t = some (.int .u8)) : Opens enc P w rByte t := by
  intro fuel cs x h
  obtain ⟨n, rfl, -, hw⟩ := DataW.trod_int ht h
  have : 0 ≤ n ∧ n ≤ 255 := by simpa [Lit.wf, IntKind.min, IntKind.max, IntKind.signed, IntKind.bits] using hw
  refine ⟨UInt8.ofNat n.toNat, ?_⟩
  show _ = [Value.int .u8 _]
  have : ((UInt8.ofNat n.toNat).toNat : Int) = n := by rw [UInt8.toNat_ofNat']; omega
  rw [this]
theorem opens_word {t : TypeId} (ht : P.underlying t = some (.int .u64)) : Opens enc P w rWord t := by
  intro fuel cs x h
  obtain ⟨n, rfl, -, hw⟩ := DataW.trod_int ht h
  have : 0 ≤ n ∧ n ≤ 18446744073709551615 := by simpa [Lit.wf, IntKind.min, IntKind.max, IntKind.signed, IntKind.bits] using hw
  refine ⟨UInt64.ofNat n.toNat, ?_⟩
  show _ = [Value.int .u64 _]
  have : ((UInt64.ofNat n.toNat).toNat : Int) = n := by rw [UInt64.toNat_ofNat']; omega
  rw [this]
theorem opens_sl {α : Type} [Inhabited α] {r : Rep α} {t e : TypeId} (hu : P.underlying t = some (.slice e)) (hc : P.cellsOf e = r.n) (ho : Opens enc P w r e) : Opens enc P w (rSl r) t := by
  intro fuel cs x hf
  rcases open_slice hu hf with ⟨rfl, hx⟩ | ⟨a, len', cap', m, k, D, Pl, rfl, hb, hl, hm, hmm, hx, hcell⟩
  · exact ⟨[], _, rfl, Sl.nil _ _ _⟩
  · rw [if_pos rfl] at hmm
    subst hmm
    obtain ⟨F, hF⟩ := choose_lt (n := len') (p := fun i y => ∃ cs, r.R (fun _ => False) w y cs ∧ ∀ j u, cs[j]? = some u → w.cell? ((a.add (i * r.n)).add j) = some u) (fun i hi => by
      obtain ⟨cs', h1, h2⟩ := hcell i (by omega)
      obtain ⟨y, hy⟩ := ho _ _ _ h2
      rw [hc] at h1
      obtain ⟨hbb, hlen, hall⟩ := World.cells?_some h1
      refine ⟨y, cs', hy, fun j u hu => ?_⟩
      rw [hall j (by have := (List.getElem?_eq_some_iff.1 hu).1; omega)]; exact hu)
    refine ⟨(List.range len').map F, _, rfl, some a, m, by simp, by simpa using hl, hm, fun h0 => ?_⟩
    simp only [List.length_map, List.length_range] at h0
    obtain ⟨cs0, g1, g3⟩ := hF 0 h0
    obtain ⟨b, off, spot⟩ := a
    have hl0 := r.len g1
    have hp := r.pos
    have hc0 := g3 0 (cs0[0]'(by omega)) (List.getElem?_eq_getElem _)
    have hspot : spot = none := by simpa [Addr.add] using World.cell?_spot hc0
    subst hspot
    refine ⟨b, off, rfl, by simpa [Addr.add] using World.block_lt_of_cell? w _ hc0, id, fun i x hx => ?_⟩
    rw [List.getElem?_map] at hx
    obtain ⟨i', hi', rfl⟩ := Option.map_eq_some_iff.1 hx
    have hi2 := List.getElem?_eq_some_iff.1 hi'
    have hi3 : i < len' := by simpa using hi2.1
    have : i' = i := by simpa using hi2.2.symm
    subst this
    obtain ⟨cs, e2, e3⟩ := hF i' hi3
    exact ⟨cs, e2, fun j u hu => by have := e3 j u hu; rwa [Addr.add_mid, Addr.add_mid] at this⟩
/-- A slice that is an argument. -/
theorem open_sl {α : Type} [Inhabited α] {r : Rep α} {t e : TypeId} (hu : P.underlying t = some (.slice e)) (hc : P.cellsOf e = r.n) (ho : Opens enc P w r e) {base : Nat} {v : Value} {d : DataW H} {p : List MemPlace}
    (hval : Value.okWide P w .any base t v) (h : DataW.Trod enc P w 0 (fun _ => true) true t v d p) : ∃ l, Sl r (fun _ => False) w v l := by
  obtain ⟨a0, len, cap, rfl⟩ := okWide_slice hu hval
  obtain ⟨fuel, hf⟩ := h
  obtain ⟨l, v, e, h⟩ := opens_sl hu hc ho _ _ _ hf
  simp only [Value.cells, List.cons.injEq, and_true] at e
  subst e
  exact ⟨l, h⟩
/-- A record that is an argument. -/
theorem open_rec {α : Type} {r : Rep α} {t : TypeId} {fs : Array Field} (hu : P.underlying t = some (.struct fs)) (ho : Opens enc P w r t) {base : Nat} {v : Value} {d : DataW H} {p : List MemPlace}
    (hval : Value.okWide P w .any base t v) (h : DataW.Trod enc P w 0 (fun _ => true) true t v d p) : ∃ x cs, v = .agg cs.toArray ∧ r.R (fun _ => False) w x cs := by
  obtain ⟨cs, rfl, hsz⟩ := okWide_struct hu hval
  obtain ⟨fuel, hf⟩ := h
  obtain ⟨x, hx⟩ := ho _ _ _ hf
  exact ⟨x, _, rfl, hx⟩
end
end Go.Proofs.YtdfjfagljngciaaGreat
