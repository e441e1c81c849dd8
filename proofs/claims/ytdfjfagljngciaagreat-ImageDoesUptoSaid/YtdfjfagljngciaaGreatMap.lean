/- Maps from numbers to nodes: what they hold, and what is done to them. -/
import Derived.Test.YtdfjfagljngciaaGreatInode
import Derived.MapKept
import Derived.WideKeyEntry
set_option linter.all false
set_option maxRecDepth 100000
set_option maxHeartbeats 4000000
namespace Go.Proofs.YtdfjfagljngciaaGreat.Rx
open Go.RowKit
def lookF (P : Program) (t : TypeId) (ok : Bool) (k : Value → World → Prop) (m x : Value) (w : World) : Prop := upon P k ((do pure (.value (← Instr.lookup t m x ok)) : Sem Next).run P w)
def updF (P : Program) (t : TypeId) (k : Value → World → Prop) (m x v : Value) (w : World) : Prop := upon P k ((do Instr.mapUpdate t m x v; pure .skip : Sem Next).run P w)
def entF (P : Program) (t : TypeId) (k : Value → World → Prop) (m x : Value) (w : World) : Prop := upon P k ((do pure (.value (← Instr.mapEntry t m x)) : Sem Next).run P w)
def estF (P : Program) (t : TypeId) (k : Value → World → Prop) (m s x : Value) (w : World) : Prop := upon P k ((do Instr.entryStore t m s x; pure .skip : Sem Next).run P w)
def delF (P : Program) (ts : Array TypeId) (ty : TypeId) (k : Value → World → Prop) (m x : Value) (w : World) : Prop := upon P k ((do pure (.value (← Builtin.delete_ ts ty #[m, x])) : Sem Next).run P w)
section
variable {P : Program} {env : Env} {w w' : World} {k : Value → World → Prop} {tk : Tag k} {dst : Option Tmp} {t ty : TypeId} {ts : Array TypeId} {x y z : Operand} {pos : String} {af : Array Edge} {g : Option (Nat × Bool)} {ok : Bool} {m s v u : Value}
@[go_sem ↓ high] theorem upon_look : upon P (Shut k tk) ((execOp (rho env) ⟨dst, .lookup t x y ok, ty, pos, af, g⟩).run P w) = lookF P t ok (Shut k .mk) (rho env x) (rho env y) w := nd rfl
@[go_sem ↓ high] theorem upon_upd : upon P (Shut k tk) ((execOp (rho env) ⟨dst, .mapUpdate t x y z, ty, pos, af, g⟩).run P w) = updF P t (Shut k .mk) (rho env x) (rho env y) (rho env z) w := nd rfl
@[go_sem ↓ high] theorem upon_ent : upon P (Shut k tk) ((execOp (rho env) ⟨dst, .mapEntry t x y, ty, pos, af, g⟩).run P w) = entF P t (Shut k .mk) (rho env x) (rho env y) w := nd rfl
@[go_sem ↓ high] theorem upon_est : upon P (Shut k tk) ((execOp (rho env) ⟨dst, .entryStore t x y z, ty, pos, af, g⟩).run P w) = estF P t (Shut k .mk) (rho env x) (rho env y) (rho env z) w := nd rfl
@[go_sem ↓ high] theorem upon_del : upon P (Shut k tk) ((execOp (rho env) ⟨dst, .call { callee := .builtin .delete, args := #[x, y], argTypes := ts }, ty, pos, af, g⟩).run P w) = delF P ts ty (Shut k .mk) (rho env x) (rho env y) w := by
  unfold delF Shut; simp [execOp, resolve, invoke, builtin]
@[go_sem] theorem okV_map (c : Bool) (b : Option Nat) : okV c (.map b) = True := nd rfl
@[go_sem] theorem okV_slice (c : Bool) (a : Option Addr) (l n : Nat) : okV c (.slice a l n) = True := nd rfl
@[go_sem] theorem okV_agg (c : Bool) (b : Array Value) : okV c (.agg b) = True := nd rfl
@[go_sem] theorem run_makeMap0 : (Instr.makeMap t none).run P w = .ok (.map (some w.heap.size)) (w.alloc (.map #[] 0)) := nd rfl
theorem look_intro (h : (Instr.lookup t m s ok).run P w = .ok v w') (hk : k v w') : lookF P t ok (Shut k tk) m s w := by
  simp [lookF, Sem.run_bind, h, Shut, upon, hk]
theorem upd_intro (h : (Instr.mapUpdate t m s v).run P w = .ok () w') (hk : k undef w') : updF P t (Shut k tk) m s v w := by
  simp [updF, Sem.run_bind, h, Shut, upon, hk]
theorem ent_intro (h : (Instr.mapEntry t m s).run P w = .ok v w') (hk : k v w') : entF P t (Shut k tk) m s w := by
  simp [entF, Sem.run_bind, h, Shut, upon, hk]
theorem est_intro (h : (Instr.entryStore t m s v).run P w = .ok () w') (hk : k undef w') : estF P t (Shut k tk) m s v w := by
  simp [estF, Sem.run_bind, h, Shut, upon, hk]
theorem del_intro (h : (Builtin.delete_ ts ty #[m, s]).run P w = .ok v w') (hk : k v w') : delF P ts ty (Shut k tk) m s w := by
  simp [delF, Sem.run_bind, h, Shut, upon, hk]
end
end Go.Proofs.YtdfjfagljngciaaGreat.Rx
namespace Go.Proofs.YtdfjfagljngciaaGreat
open Go.RowKit Rx Go.MapKept

/-- An entry of the map: a node under its number. -/
def Ent (X : Nat → Prop) (w : World) (x : MapEntry) (n : Node) : Prop := x.key = .int .i64 n.ino ∧ ∃ cs, x.val = .agg cs.toArray ∧ rNode.R X w n cs
def Ents (X : Nat → Prop) (w : World) (es : List MapEntry) (L : List Node) : Prop := (∀ x ∈ es, ∃ n ∈ L, Ent X w x n) ∧ ∀ n ∈ L, ∃ x ∈ es, Ent X w x n
/-- Block m is a map of these nodes; what they hold lies in no block of X. -/
def MapN (w : World) (X : Nat → Prop) (m : Nat) (L : List Node) : Prop := ∃ es clock, w.heap[m]? = some (.map es clock) ∧ Stamped es clock ∧ Ents X w es.toList L
def Inos (L : List Node) : Prop := (L.map (·.ino)).Nodup
def getL (L : List Node) (k : Int) : Option Node := L.find? (fun n => decide (n.ino = k))
def setL (L : List Node) (n : Node) : List Node := if (getL L n.ino).isSome = true then L.map (fun x => if x.ino = n.ino then n else x) else L ++ [n]
def delL (L : List Node) (k : Int) : List Node := L.filter (fun n => !decide (n.ino = k))
def node0 : Node := ⟨0, 0, 0, 0, 0, [], []⟩
theorem rep_node0 (X : Nat → Prop) (w : World) : rNode.R X w node0 (node0.enc (.slice none 0 0) (.slice none 0 0)) :=
  ⟨_, _, rfl, (Ow.nil rInt 0 X w).sl (by simp [ownB]), (Ow.nil rEntry 0 X w).sl (by simp [ownB]), by unfold Node.ok node0 I64; simp⟩
theorem getL_some {L : List Node} {k : Int} {n : Node} (h : getL L k = some n) : n ∈ L ∧ n.ino = k := ⟨List.mem_of_find?_eq_some h, by simpa using List.find?_some h⟩
theorem getL_none {L : List Node} {k : Int} (h : getL L k = none) : ∀ n ∈ L, n.ino ≠ k := by
  intro n hn q
  have := List.find?_eq_none.1 h n hn
  simp [q] at this
theorem inos_inj : ∀ {L : List Node}, Inos L → ∀ {a b : Node}, a ∈ L → b ∈ L → a.ino = b.ino → a = b
  | x :: L, hd, a, b, ha, hb, e => by
    have hd' := List.nodup_cons.1 (by simpa [Inos] using hd : (x.ino :: L.map (·.ino)).Nodup)
    rcases List.mem_cons.1 ha with ha | ha <;> rcases List.mem_cons.1 hb with hb | hb
    · rw [ha, hb]
    · exact absurd (List.mem_map.2 ⟨b, hb, by rw [← e, ha]⟩) hd'.1
    · exact absurd (List.mem_map.2 ⟨a, ha, by rw [e, hb]⟩) hd'.1
    · exact inos_inj hd'.2 ha hb e
theorem getL_mem {L : List Node} (hd : Inos L) {n : Node} (hn : n ∈ L) : getL L n.ino = some n := by
  cases h : getL L n.ino with
  | none => exact absurd rfl (getL_none h n hn)
  | some n' =>
    obtain ⟨h1, h2⟩ := getL_some h
    rw [inos_inj hd h1 hn h2]
theorem mem_setL {L : List Node} {n x : Node} : x ∈ setL L n ↔ x = n ∨ (x ∈ L ∧ x.ino ≠ n.ino) := by
  unfold setL
  cases hg : getL L n.ino with
  | none =>
    have := getL_none hg
    simp only [Option.isSome_none, Bool.false_eq_true, if_false, List.mem_append, List.mem_singleton]
    constructor
    · rintro (h | h)
      · exact .inr ⟨h, this x h⟩
      · exact .inl h
    · rintro (h | ⟨h, -⟩)
      · exact .inr h
      · exact .inl h
  | some n' =>
    obtain ⟨h1, h2⟩ := getL_some hg
    simp only [Option.isSome_some, if_true, List.mem_map]
    constructor
    · rintro ⟨y, hy, rfl⟩
      split
      · exact .inl rfl
      · rename_i q; exact .inr ⟨hy, q⟩
    · rintro (h | ⟨h, q⟩)
      · exact ⟨n', h1, by rw [if_pos h2, h]⟩
      · exact ⟨x, h, by rw [if_neg q]⟩
theorem inos_setL {L : List Node} (h : Inos L) (n : Node) : Inos (setL L n) := by
  unfold setL
  cases hg : getL L n.ino with
  | none =>
    have := getL_none hg
    simp only [Option.isSome_none, Bool.false_eq_true, if_false]
    unfold Inos
    rw [List.map_append]
    refine List.nodup_append.2 ⟨h, by simp, ?_⟩
    intro a ha b hb
    obtain ⟨x, hx, rfl⟩ := List.mem_map.1 ha
    simp at hb; subst hb
    exact this x hx
  | some n' =>
    simp only [Option.isSome_some, if_true]
    unfold Inos
    rw [List.map_map]
    have e : ((fun x : Node => x.ino) ∘ fun x => if x.ino = n.ino then n else x) = fun x => x.ino := by
      funext x
      simp only [Function.comp]
      split
      · rename_i q; exact q.symm
      · rfl
    rw [e]; exact h
theorem mem_delL {L : List Node} {k : Int} {x : Node} : x ∈ delL L k ↔ x ∈ L ∧ x.ino ≠ k := by
  unfold delL
  simp [List.mem_filter]
theorem inos_delL {L : List Node} (h : Inos L) (k : Int) : Inos (delL L k) := (List.filter_sublist.map _).nodup h
theorem mem_modify {es : Array MapEntry} {j : Nat} {f : MapEntry → MapEntry} {x : MapEntry} : x ∈ (es.modify j f).toList ↔ ∃ i y, es.toList[i]? = some y ∧ x = if j = i then f y else y := by
  rw [List.mem_iff_getElem?]
  simp only [Array.getElem?_toList, Array.getElem?_modify]
  constructor
  · rintro ⟨i, hi⟩
    by_cases q : j = i
    · rw [if_pos q] at hi
      obtain ⟨y, hy, e⟩ := Option.map_eq_some_iff.1 hi
      exact ⟨i, y, hy, by rw [if_pos q]; exact e.symm⟩
    · rw [if_neg q] at hi
      exact ⟨i, x, hi, by rw [if_neg q]⟩
  · rintro ⟨i, y, hy, rfl⟩
    refine ⟨i, ?_⟩
    by_cases q : j = i
    · rw [if_pos q, if_pos q, hy]; rfl
    · rw [if_neg q, if_neg q, hy]
theorem Ent.isKey {X : Nat → Prop} {w : World} {x : MapEntry} {n : Node} (h : Ent X w x n) : IsKey (.int .i64) x.key := by rw [h.1]; exact rfl
theorem Ents.isKey {X : Nat → Prop} {w : World} {es : List MapEntry} {L : List Node} (h : Ents X w es L) : ∀ x ∈ es, IsKey (.int .i64) x.key := fun x hx => by
  obtain ⟨n, -, hn⟩ := h.1 x hx; exact hn.isKey
theorem Ents.step {O X : Nat → Prop} {w w' : World} {es : List MapEntry} {L : List Node} (h : Ents X w es L) (hs : Step O w w') (ho : ∀ k, O k → X k) : Ents X w' es L := by
  have e : ∀ x n, Ent X w x n → Ent X w' x n := fun x n ⟨q1, cs, q2, q3⟩ => ⟨q1, cs, q2, rNode.step q3 hs ho⟩
  exact ⟨fun x hx => by obtain ⟨n, h1, h2⟩ := h.1 x hx; exact ⟨n, h1, e x n h2⟩, fun n hn => by obtain ⟨x, h1, h2⟩ := h.2 n hn; exact ⟨x, h1, e x n h2⟩⟩
theorem Ents.mono {X Y : Nat → Prop} {w : World} {es : List MapEntry} {L : List Node} (h : Ents X w es L) (hm : ∀ k, k < w.heap.size → Y k → X k) : Ents Y w es L := by
  have e : ∀ x n, Ent X w x n → Ent Y w x n := fun x n ⟨q1, cs, q2, q3⟩ => ⟨q1, cs, q2, rNode.mono q3 hm⟩
  exact ⟨fun x hx => by obtain ⟨n, h1, h2⟩ := h.1 x hx; exact ⟨n, h1, e x n h2⟩, fun n hn => by obtain ⟨x, h1, h2⟩ := h.2 n hn; exact ⟨x, h1, e x n h2⟩⟩
theorem MapN.step {O X : Nat → Prop} {w w' : World} {m : Nat} {L : List Node} (h : MapN w X m L) (hs : Step O w w') (ho : ∀ k, O k → X k) (hm : ¬ O m) : MapN w' X m L := by
  obtain ⟨es, c, h1, h2, h3⟩ := h
  exact ⟨es, c, hs.blk h1 hm, h2, h3.step hs ho⟩
theorem MapN.keep {X : Nat → Prop} {w w' : World} {m : Nat} {L : List Node} (h : MapN w X m L) (hs : Keep w w') : MapN w' X m L := h.step hs (fun _ q => q.elim) id
theorem MapN.mono {X Y : Nat → Prop} {w : World} {m : Nat} {L : List Node} (h : MapN w X m L) (hm : ∀ k, k < w.heap.size → Y k → X k) : MapN w Y m L := by
  obtain ⟨es, c, h1, h2, h3⟩ := h
  exact ⟨es, c, h1, h2, h3.mono hm⟩
theorem MapN.lt {X : Nat → Prop} {w : World} {m : Nat} {L : List Node} (h : MapN w X m L) : m < w.heap.size := by
  obtain ⟨es, c, h1, -⟩ := h
  exact (Array.getElem?_eq_some_iff.1 h1).1
theorem Step.map {w : World} {r : Nat} (o : Obj) : Step (fun k => k = r) w { w with heap := w.heap.setIfInBounds r o } :=
  ⟨rfl, rfl, rfl, by simp, fun k hk hne => by simp [Ne.symm hne]⟩
/-- What the map's key is in an entry of a number. -/
theorem Ents.at {X : Nat → Prop} {w : World} {es : List MapEntry} {L : List Node} (h : Ents X w es L) (hd : Inos L) {x : MapEntry} (hx : x ∈ es) {k : Int} (hk : x.key = .int .i64 k) : ∃ n, getL L k = some n ∧ Ent X w x n := by
  obtain ⟨n, hn, e⟩ := h.1 x hx
  have : n.ino = k := by have := e.1.symm.trans hk; simpa using this
  subst this
  exact ⟨n, getL_mem hd hn, e⟩
theorem Ents.no {X : Nat → Prop} {w : World} {es : List MapEntry} {L : List Node} (h : Ents X w es L) {k : Int} (hk : ∀ x ∈ es, x.key ≠ .int .i64 k) : getL L k = none := by
  cases hg : getL L k with
  | none => rfl
  | some n =>
    obtain ⟨h1, rfl⟩ := getL_some hg
    obtain ⟨x, hx, e⟩ := h.2 n h1
    exact absurd e.1 (hk x hx)
theorem zero_node (w : World) : (zeroValue 42).run Tryz.prog w = .ok (.agg (node0.enc (.slice none 0 0) (.slice none 0 0)).toArray) w := by
  unfold node0 Node.enc
  simp [go_sem]
theorem MapN.look {X : Nat → Prop} {w : World} {m : Nat} {L : List Node} (h : MapN w X m L) (hd : Inos L) (k : Int) :
    ∃ cs, (Instr.lookup 77 (.map (some m)) (.int .i64 k) true).run Tryz.prog w = .ok (.tuple #[.agg cs.toArray, .bool (getL L k).isSome]) w ∧ rNode.R X w ((getL L k).getD node0) cs := by
  obtain ⟨es, c, hb, hs, he⟩ := h
  have hm := Tryz.underlying77
  have hk := Tryz.underlying3
  rcases findNow_spec (d := .int .i64) (k := .int .i64 k) rfl es.toList 0 he.isKey with ⟨h1, h2⟩ | ⟨j, e, h1, h2, h3⟩
  · refine ⟨_, ?_, by rw [he.no h2]; exact rep_node0 X w⟩
    simp [Instr.lookup, run_underlying hm, MapKept.run_getObj_map hb, run_checkKey hk (k := .int .i64 k) rfl, run_findKey hk h1, zero_node, Result.andThen, he.no h2]
    rfl
  · obtain ⟨n, g1, g2, cs, g3, g4⟩ := he.at hd (List.mem_of_getElem? h2) h3
    refine ⟨cs, ?_, by rw [g1]; exact g4⟩
    simp [Instr.lookup, run_underlying hm, MapKept.run_getObj_map hb, run_checkKey hk (k := .int .i64 k) rfl, run_findKey hk h1, Result.andThen, g1, g3]
theorem keys_apart {es : Array MapEntry} {clock : Nat} (hs : Stamped es clock) {i j : Nat} {x y : MapEntry} (hi : es.toList[i]? = some x) (hj : es.toList[j]? = some y) (h : x.key = y.key) : i = j := by
  have := hs.2.2
  have hi' : i < (es.toList.map (·.key)).length := by simpa using (List.getElem?_eq_some_iff.1 hi).1
  have gj : (es.toList.map (·.key))[j]? = some y.key := by rw [List.getElem?_map, hj]; rfl
  have gi : (es.toList.map (·.key))[i]? = some y.key := by rw [List.getElem?_map, hi]; simp [h]
  rcases Nat.lt_trichotomy i j with g | g | g
  · exact absurd rfl (List.pairwise_iff_getElem.1 this i j hi' (List.getElem?_eq_some_iff.1 gj).1 g |> fun q => by
      rw [(List.getElem?_eq_some_iff.1 gi).2, (List.getElem?_eq_some_iff.1 gj).2] at q; exact q)
  · exact g
  · exact absurd rfl (List.pairwise_iff_getElem.1 this j i (List.getElem?_eq_some_iff.1 gj).1 hi' g |> fun q => by
      rw [(List.getElem?_eq_some_iff.1 gi).2, (List.getElem?_eq_some_iff.1 gj).2] at q; exact q)
theorem Ents.push {X : Nat → Prop} {w' : World} {es : Array MapEntry} {L : List Node} (h : Ents X w' es.toList L) {x : MapEntry} {n : Node} (he : Ent X w' x n) (hn : ∀ y ∈ es.toList, y.key ≠ .int .i64 n.ino) : Ents X w' (es.push x).toList (setL L n) := by
  constructor
  · intro y hy
    simp only [Array.toList_push, List.mem_append, List.mem_singleton] at hy
    rcases hy with hy | rfl
    · obtain ⟨m, h1, h2⟩ := h.1 y hy
      exact ⟨m, mem_setL.2 (.inr ⟨h1, fun q => hn y hy (by rw [h2.1, q])⟩), h2⟩
    · exact ⟨n, mem_setL.2 (.inl rfl), he⟩
  · intro m hm
    simp only [Array.toList_push]
    rcases mem_setL.1 hm with rfl | ⟨h1, h2⟩
    · exact ⟨x, by simp, he⟩
    · obtain ⟨y, h3, h4⟩ := h.2 m h1
      exact ⟨y, by simp [h3], h4⟩
theorem Ents.modify {X : Nat → Prop} {w' : World} {es : Array MapEntry} {clock : Nat} (hs : Stamped es clock) {L : List Node} (h : Ents X w' es.toList L) {j : Nat} {e : MapEntry} {f : MapEntry → MapEntry} {n : Node} (hj : es.toList[j]? = some e) (hk : e.key = .int .i64 n.ino) (he : Ent X w' (f e) n) : Ents X w' (es.modify j f).toList (setL L n) := by
  constructor
  · intro y hy
    obtain ⟨i, z, hz, rfl⟩ := mem_modify.1 hy
    by_cases q : j = i
    · subst q
      rw [if_pos rfl]
      rw [hj] at hz; cases hz
      exact ⟨n, mem_setL.2 (.inl rfl), he⟩
    · rw [if_neg q]
      obtain ⟨m, h1, h2⟩ := h.1 z (List.mem_of_getElem? hz)
      exact ⟨m, mem_setL.2 (.inr ⟨h1, fun g => q (keys_apart hs hj hz (by rw [hk, h2.1, g]))⟩), h2⟩
  · intro m hm
    rcases mem_setL.1 hm with rfl | ⟨h1, h2⟩
    · exact ⟨f e, mem_modify.2 ⟨j, e, hj, by rw [if_pos rfl]⟩, he⟩
    · obtain ⟨y, h3, h4⟩ := h.2 m h1
      obtain ⟨i, hi⟩ := List.mem_iff_getElem?.1 h3
      refine ⟨y, mem_modify.2 ⟨i, y, hi, ?_⟩, h4⟩
      rw [if_neg]
      rintro rfl
      rw [hj] at hi; cases hi
      exact h2 (by have := h4.1.symm.trans hk; simpa using this)
theorem MapN.upd {X : Nat → Prop} {w : World} {m : Nat} {L : List Node} (h : MapN w X m L) (hX : X m) {n : Node} {cs : List Value} (hr : rNode.R X w n cs) :
    ∃ w', (Instr.mapUpdate 77 (.map (some m)) (.int .i64 n.ino) (.agg cs.toArray)).run Tryz.prog w = .ok () w' ∧ MapN w' X m (setL L n) ∧ Step (fun k => k = m) w w' := by
  obtain ⟨es, c, hb, hs, he⟩ := h
  have hm := Tryz.underlying77
  have hk := Tryz.underlying3
  have ho : ∀ k, k = m → X k := fun k q => q ▸ hX
  rcases findNow_spec (d := .int .i64) (k := .int .i64 n.ino) rfl es.toList 0 he.isKey with ⟨h1, h2⟩ | ⟨j, e, h1, h2, h3⟩
  · refine ⟨{ w with heap := w.heap.setIfInBounds m (.map (es.push { key := .int .i64 n.ino, val := .agg cs.toArray, born := c }) (c + 1)) }, ?_, ?_, Step.map _⟩
    · simp [Instr.mapUpdate, run_underlying hm, MapKept.run_getObj_map hb, run_checkKey hk (k := .int .i64 n.ino) rfl, run_findKey hk h1, run_setObj_map _ hb, Result.andThen]
    · exact ⟨_, _, (heap_set hb).1, stamped_push hs h2, (he.step (Step.map _) ho).push ⟨rfl, cs, rfl, rNode.step hr (Step.map _) ho⟩ h2⟩
  · have hj : es[j]? = some e := by simpa using h2
    refine ⟨{ w with heap := w.heap.setIfInBounds m (.map (es.modify j fun e => { e with key := .int .i64 n.ino, val := .agg cs.toArray }) c) }, ?_, ?_, Step.map _⟩
    · simp [Instr.mapUpdate, run_underlying hm, MapKept.run_getObj_map hb, run_checkKey hk (k := .int .i64 n.ino) rfl, run_findKey hk h1, hj, h3, run_keyThatStays (d := .int .i64) (k := .int .i64 n.ino) rfl, run_setObj_map _ hb, Result.andThen]
    · exact ⟨_, _, (heap_set hb).1, stamped_modify hs _ _ (fun _ _ => rfl) (fun e' _ he' => by rw [hj] at he'; cases he'; exact h3.symm), (he.step (Step.map _) ho).modify hs h2 h3 ⟨rfl, cs, rfl, rNode.step hr (Step.map _) ho⟩⟩
/-- A stamp of the entry of a number. -/
def StampN (w : World) (m : Nat) (k : Int) (born : Nat) : Prop := ∃ es clock e, w.heap[m]? = some (.map es clock) ∧ e ∈ es.toList ∧ e.key = .int .i64 k ∧ e.born = born
theorem MapN.ent {X : Nat → Prop} {w : World} {m : Nat} {L : List Node} (h : MapN w X m L) (hd : Inos L) {n : Node} (hn : n ∈ L) :
    ∃ u born, (Instr.mapEntry 77 (.map (some m)) (.int .i64 n.ino)).run Tryz.prog w = .ok (.tuple #[u, .int .i64 (born : Nat)]) w ∧ StampN w m n.ino born := by
  obtain ⟨es, c, hb, hs, he⟩ := h
  have hm := Tryz.underlying77
  have hk := Tryz.underlying3
  rcases findNow_spec (d := .int .i64) (k := .int .i64 n.ino) rfl es.toList 0 he.isKey with ⟨h1, h2⟩ | ⟨j, e, h1, h2, h3⟩
  · exact absurd (he.no h2) (by rw [getL_mem hd hn]; simp)
  · have hj : es[j]? = some e := by simpa using h2
    have e1 : (es.modify j fun e => { e with key := Value.int .i64 n.ino }) = es := by
      apply Array.ext_getElem?
      intro i
      rw [Array.getElem?_modify]
      split
      · rename_i q; subst q; rw [hj]; simp [← h3]
      · rfl
    have e2 : ({ w with heap := w.heap.setIfInBounds m (.map es c) } : World) = w := by
      have : w.heap.setIfInBounds m (.map es c) = w.heap := by
        apply Array.ext_getElem?
        intro i
        rw [Array.getElem?_setIfInBounds]
        split
        · rename_i q; subst q; rw [hb]; simp [(Array.getElem?_eq_some_iff.1 hb).1]
        · rfl
      rw [this]
    refine ⟨e.val, e.born, ?_, es, c, e, hb, List.mem_of_getElem? h2, h3, rfl⟩
    simp [Instr.mapEntry, run_underlying hm, MapKept.run_getObj_map hb, run_checkKey hk (k := .int .i64 n.ino) rfl, run_findKey hk h1, hj, h3, run_keyThatStays (d := .int .i64) (k := .int .i64 n.ino) rfl, run_setObj_map _ hb, Result.andThen, e1, e2, goInt]
theorem MapN.est {X : Nat → Prop} {w : World} {m : Nat} {L : List Node} (h : MapN w X m L) (hX : X m) {n : Node} {cs : List Value} (hr : rNode.R X w n cs) {born : Nat} (hs : StampN w m n.ino born) :
    ∃ w', (Instr.entryStore 77 (.map (some m)) (.int .i64 born) (.agg cs.toArray)).run Tryz.prog w = .ok () w' ∧ MapN w' X m (setL L n) ∧ Step (fun k => k = m) w w' := by
  obtain ⟨es, c, hb, hs', he⟩ := h
  obtain ⟨es2, c2, e, hb2, hm2, hk2, rfl⟩ := hs
  rw [hb] at hb2
  simp only [Option.some.injEq, Obj.map.injEq] at hb2
  obtain ⟨rfl, rfl⟩ := hb2
  have ho : ∀ k, k = m → X k := fun k q => q ▸ hX
  obtain ⟨j, hj⟩ := List.mem_iff_getElem?.1 hm2
  have hf : es.findIdx? (fun x => ((x.born : Nat) : Int) == ((e.born : Nat) : Int)) = some j := by
    rw [show es.findIdx? (fun x => ((x.born : Nat) : Int) == ((e.born : Nat) : Int)) = es.toList.findIdx? (fun x => ((x.born : Nat) : Int) == ((e.born : Nat) : Int)) from by obtain ⟨l⟩ := es; simp]
    exact Go.WideElems.findIdx_born hs'.2.1 hj
  refine ⟨{ w with heap := w.heap.setIfInBounds m (.map (es.modify j fun e => { e with val := .agg cs.toArray }) c) }, ?_, ?_, Step.map _⟩
  · simp [Instr.entryStore, MapKept.run_getObj_map hb, asInt, asIntOf, hf, run_setObj_map _ hb, Result.andThen]
  · exact ⟨_, _, (heap_set hb).1, stamped_modify hs' _ _ (fun _ _ => rfl) (fun _ _ _ => rfl), (he.step (Step.map _) ho).modify hs' hj hk2 ⟨hk2, cs, rfl, rNode.step hr (Step.map _) ho⟩⟩
theorem MapN.del {X : Nat → Prop} {w : World} {m : Nat} {L : List Node} (h : MapN w X m L) (hX : X m) (k : Int) (ty : TypeId) :
    ∃ w', (Builtin.delete_ #[77, 3] ty #[.map (some m), .int .i64 k]).run Tryz.prog w = .ok (.tuple #[]) w' ∧ MapN w' X m (delL L k) ∧ Step (fun k => k = m) w w' := by
  obtain ⟨es, c, hb, hs, he⟩ := h
  have hm := Tryz.underlying77
  have hk := Tryz.underlying3
  have ho : ∀ k, k = m → X k := fun k q => q ▸ hX
  rcases findNow_spec (d := .int .i64) (k := .int .i64 k) rfl es.toList 0 he.isKey with ⟨h1, h2⟩ | ⟨j, e, h1, h2, h3⟩
  · refine ⟨{ w with heap := w.heap.setIfInBounds m (.map es c) }, ?_, ?_, Step.map _⟩
    · simp [Builtin.delete_, run_underlying hm, MapKept.run_getObj_map hb, run_checkKey hk (k := .int .i64 k) rfl, run_findKey hk h1, run_setObj_map _ hb, Result.andThen]
    · refine ⟨_, _, (heap_set hb).1, hs, ?_⟩
      have q := he.step (Step.map (w := w) (r := m) (.map es c)) ho
      refine ⟨fun x hx => ?_, fun n hn => q.2 n (mem_delL.1 hn).1⟩
      obtain ⟨n, g1, g2⟩ := q.1 x hx
      exact ⟨n, mem_delL.2 ⟨g1, fun g => h2 x hx (by rw [g2.1, g])⟩, g2⟩
  · refine ⟨{ w with heap := w.heap.setIfInBounds m (.map (es.eraseIdxIfInBounds j) c) }, ?_, ?_, Step.map _⟩
    · simp [Builtin.delete_, run_underlying hm, MapKept.run_getObj_map hb, run_checkKey hk (k := .int .i64 k) rfl, run_findKey hk h1, run_setObj_map _ hb, Result.andThen]
    · refine ⟨_, _, (heap_set hb).1, stamped_erase hs _, ?_⟩
      have q := he.step (Step.map (w := w) (r := m) (.map (es.eraseIdxIfInBounds j) c)) ho
      have hjl : j < es.size := by simpa using (List.getElem?_eq_some_iff.1 h2).1
      have hmem : ∀ x, x ∈ (es.eraseIdxIfInBounds j).toList ↔ ∃ i, i ≠ j ∧ es.toList[i]? = some x := fun x => by
        unfold Array.eraseIdxIfInBounds
        rw [dif_pos hjl, Array.toList_eraseIdx, List.mem_eraseIdx_iff_getElem?]
      constructor
      · intro x hx
        obtain ⟨i, g1, g2⟩ := (hmem x).1 hx
        obtain ⟨n, g3, g4⟩ := q.1 x (List.mem_of_getElem? g2)
        exact ⟨n, mem_delL.2 ⟨g3, fun g => g1 (keys_apart hs g2 h2 (by rw [g4.1, g, h3]))⟩, g4⟩
      · intro n hn
        obtain ⟨g1, g2⟩ := mem_delL.1 hn
        obtain ⟨x, g3, g4⟩ := q.2 n g1
        obtain ⟨i, hi⟩ := List.mem_iff_getElem?.1 g3
        refine ⟨x, (hmem x).2 ⟨i, ?_, hi⟩, g4⟩
        rintro rfl
        rw [h2] at hi; cases hi
        exact g2 (by have := g4.1.symm.trans h3; simpa using this)
theorem MapN.fresh (w : World) (X : Nat → Prop) : MapN (w.alloc (.map #[] 0)) X w.heap.size [] :=
  ⟨#[], 0, heap_alloc_new w _, stamped_empty 0, by simp [Ents]⟩
end Go.Proofs.YtdfjfagljngciaaGreat
