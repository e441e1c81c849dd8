/- The records of the program that are only read: what each is, how it lies in memory; printed by a program of this session (wip/tools/mkrep.py). -/
import Derived.Test.YtdfjfagljngciaaDoorRep
import Derived.Test.YtdfjfagljngciaaDoorProg
set_option linter.all false
namespace Go.Proofs.YtdfjfagljngciaaDoor
open Go.ChangeShapes Go.WideShapes Go.ChangeAt Go.RowKit Go.Deep Rx
/-- api.Effect. -/
structure Effect where
  kind : Int
  ino : Int
  dir : Int
  to : Int
  page : Int
  size : Int
  name : ByteArray
  other : ByteArray
  data : List UInt8
  deriving DecidableEq
instance : Inhabited Effect := ⟨⟨0, 0, 0, 0, 0, 0, .empty, .empty, []⟩⟩
def Effect.enc (x : Effect) (d_data : Value) : List Value := [.int .i64 x.kind, .int .i64 x.ino, .int .i64 x.dir, .int .i64 x.to, .int .i64 x.page, .int .i64 x.size, .string x.name, .string x.other, d_data]
/-- Its ints are ints. -/
def Effect.ok (x : Effect) : Prop := I64 x.kind ∧ I64 x.ino ∧ I64 x.dir ∧ I64 x.to ∧ I64 x.page ∧ I64 x.size
def rEffect : Rep Effect where
  n := 9
  pos := by omega
  R := fun X w x cs => ∃ d_data, cs = x.enc d_data ∧ Sl rByte X w d_data x.data ∧ x.ok
  len := by rintro _ _ _ _ ⟨d_data, rfl, h_d_data, h_ok⟩; rfl
  step := by rintro _ _ _ _ _ _ ⟨d_data, rfl, h_d_data, h_ok⟩ hs ho; exact ⟨d_data, rfl, h_d_data.step hs ho, h_ok⟩
  mono := by rintro _ _ _ _ _ ⟨d_data, rfl, h_d_data, h_ok⟩ hm; exact ⟨d_data, rfl, h_d_data.mono hm, h_ok⟩
theorem Sl.effect {X : Nat → Prop} {w : World} {v : Value} {l : List Effect} (h : Sl rEffect X w v l) {i : Nat} {x : Effect} (hx : l[i]? = some x) : ∃ b off c d_data, v = .slice (some ⟨b, off, none⟩) l.length c ∧ b < w.heap.size ∧ ¬ X b ∧ x.ok ∧ Sl rByte X w d_data x.data ∧ w.cell? ⟨b, off + i * 9, none⟩ = some (.int .i64 x.kind) ∧ w.cell? ⟨b, off + i * 9 + 1, none⟩ = some (.int .i64 x.ino) ∧ w.cell? ⟨b, off + i * 9 + 2, none⟩ = some (.int .i64 x.dir) ∧ w.cell? ⟨b, off + i * 9 + 3, none⟩ = some (.int .i64 x.to) ∧ w.cell? ⟨b, off + i * 9 + 4, none⟩ = some (.int .i64 x.page) ∧ w.cell? ⟨b, off + i * 9 + 5, none⟩ = some (.int .i64 x.size) ∧ w.cell? ⟨b, off + i * 9 + 6, none⟩ = some (.string x.name) ∧ w.cell? ⟨b, off + i * 9 + 7, none⟩ = some (.string x.other) ∧ w.cell? ⟨b, off + i * 9 + 8, none⟩ = some (d_data) := by
  obtain ⟨b, off, c, cs, e, hb, hX, ⟨d_data, rfl, h_d_data, h_ok⟩, hc⟩ := h.elt hx
  exact ⟨b, off, c, d_data, e, hb, hX, h_ok, h_d_data, hc 0 _ rfl, hc 1 _ rfl, hc 2 _ rfl, hc 3 _ rfl, hc 4 _ rfl, hc 5 _ rfl, hc 6 _ rfl, hc 7 _ rfl, hc 8 _ rfl⟩
theorem opens_Effect {H : Type} {enc : TypeId × Value → H} {w : World} : Opens enc Tryd.prog w rEffect 25 := by
  intro fuel cs x h
  obtain ⟨hl, n, hf⟩ := open_fields Tryd.underlying25 h
  rw [show Tryd.prog.cellsOf 25 = 9 from by kernel_rfl] at hl
  match cs, hl with
  | [c0, c1, c2, c3, c4, c5, c6, c7, c8], _ =>
    have z0 : Tryd.prog.cellsOf 23 = 1 := by kernel_rfl
    have z1 : Tryd.prog.cellsOf 3 = 1 := by kernel_rfl
    have z2 : Tryd.prog.cellsOf 9 = 1 := by kernel_rfl
    obtain ⟨_, h0⟩ := hf 0 _ rfl
    obtain ⟨_, h1⟩ := hf 1 _ rfl
    obtain ⟨_, h2⟩ := hf 2 _ rfl
    obtain ⟨_, h3⟩ := hf 3 _ rfl
    obtain ⟨_, h4⟩ := hf 4 _ rfl
    obtain ⟨_, h5⟩ := hf 5 _ rfl
    obtain ⟨_, h6⟩ := hf 6 _ rfl
    obtain ⟨_, h7⟩ := hf 7 _ rfl
    obtain ⟨_, h8⟩ := hf 8 _ rfl
    simp [z0, z1, z2] at h0 h1 h2 h3 h4 h5 h6 h7 h8
    obtain ⟨y0, e0, k0⟩ := (opens_int Tryd.underlying3) _ _ _ h0
    obtain ⟨y1, e1, k1⟩ := (opens_int Tryd.underlying3) _ _ _ h1
    obtain ⟨y2, e2, k2⟩ := (opens_int Tryd.underlying3) _ _ _ h2
    obtain ⟨y3, e3, k3⟩ := (opens_int Tryd.underlying3) _ _ _ h3
    obtain ⟨y4, e4, k4⟩ := (opens_int Tryd.underlying3) _ _ _ h4
    obtain ⟨y5, e5, k5⟩ := (opens_int Tryd.underlying3) _ _ _ h5
    obtain ⟨y6, e6⟩ := (opens_str Tryd.underlying9) _ _ _ h6
    obtain ⟨y7, e7⟩ := (opens_str Tryd.underlying9) _ _ _ h7
    obtain ⟨y8, v8, e8, s8⟩ := (opens_sl Tryd.underlying23 (by kernel_rfl) (opens_byte Tryd.underlying5)) _ _ _ h8
    simp only [rInt, rStr, rYes, rByte, rWord, repOf, List.cons.injEq, and_true] at e0 e1 e2 e3 e4 e5 e6 e7 e8
    subst e0
    subst e1
    subst e2
    subst e3
    subst e4
    subst e5
    subst e6
    subst e7
    subst e8
    exact ⟨⟨y0, y1, y2, y3, y4, y5, y6, y7, y8⟩, _, rfl, s8, ⟨k0, k1, k2, k3, k4, k5⟩⟩
/-- api.Item. -/
structure Item where
  path : ByteArray
  ino : Int
  kind : Int
  size : Int
  data : List UInt8
  deriving DecidableEq
instance : Inhabited Item := ⟨⟨.empty, 0, 0, 0, []⟩⟩
def Item.enc (x : Item) (d_data : Value) : List Value := [.string x.path, .int .i64 x.ino, .int .i64 x.kind, .int .i64 x.size, d_data]
/-- Its ints are ints. -/
def Item.ok (x : Item) : Prop := I64 x.ino ∧ I64 x.kind ∧ I64 x.size
def rItem : Rep Item where
  n := 5
  pos := by omega
  R := fun X w x cs => ∃ d_data, cs = x.enc d_data ∧ Sl rByte X w d_data x.data ∧ x.ok
  len := by rintro _ _ _ _ ⟨d_data, rfl, h_d_data, h_ok⟩; rfl
  step := by rintro _ _ _ _ _ _ ⟨d_data, rfl, h_d_data, h_ok⟩ hs ho; exact ⟨d_data, rfl, h_d_data.step hs ho, h_ok⟩
  mono := by rintro _ _ _ _ _ ⟨d_data, rfl, h_d_data, h_ok⟩ hm; exact ⟨d_data, rfl, h_d_data.mono hm, h_ok⟩
theorem Sl.item {X : Nat → Prop} {w : World} {v : Value} {l : List Item} (h : Sl rItem X w v l) {i : Nat} {x : Item} (hx : l[i]? = some x) : ∃ b off c d_data, v = .slice (some ⟨b, off, none⟩) l.length c ∧ b < w.heap.size ∧ ¬ X b ∧ x.ok ∧ Sl rByte X w d_data x.data ∧ w.cell? ⟨b, off + i * 5, none⟩ = some (.string x.path) ∧ w.cell? ⟨b, off + i * 5 + 1, none⟩ = some (.int .i64 x.ino) ∧ w.cell? ⟨b, off + i * 5 + 2, none⟩ = some (.int .i64 x.kind) ∧ w.cell? ⟨b, off + i * 5 + 3, none⟩ = some (.int .i64 x.size) ∧ w.cell? ⟨b, off + i * 5 + 4, none⟩ = some (d_data) := by
  obtain ⟨b, off, c, cs, e, hb, hX, ⟨d_data, rfl, h_d_data, h_ok⟩, hc⟩ := h.elt hx
  exact ⟨b, off, c, d_data, e, hb, hX, h_ok, h_d_data, hc 0 _ rfl, hc 1 _ rfl, hc 2 _ rfl, hc 3 _ rfl, hc 4 _ rfl⟩
theorem opens_Item {H : Type} {enc : TypeId × Value → H} {w : World} : Opens enc Tryd.prog w rItem 32 := by
  intro fuel cs x h
  obtain ⟨hl, n, hf⟩ := open_fields Tryd.underlying32 h
  rw [show Tryd.prog.cellsOf 32 = 5 from by kernel_rfl] at hl
  match cs, hl with
  | [c0, c1, c2, c3, c4], _ =>
    have z0 : Tryd.prog.cellsOf 23 = 1 := by kernel_rfl
    have z1 : Tryd.prog.cellsOf 3 = 1 := by kernel_rfl
    have z2 : Tryd.prog.cellsOf 9 = 1 := by kernel_rfl
    obtain ⟨_, h0⟩ := hf 0 _ rfl
    obtain ⟨_, h1⟩ := hf 1 _ rfl
    obtain ⟨_, h2⟩ := hf 2 _ rfl
    obtain ⟨_, h3⟩ := hf 3 _ rfl
    obtain ⟨_, h4⟩ := hf 4 _ rfl
    simp [z0, z1, z2] at h0 h1 h2 h3 h4
    obtain ⟨y0, e0⟩ := (opens_str Tryd.underlying9) _ _ _ h0
    obtain ⟨y1, e1, k1⟩ := (opens_int Tryd.underlying3) _ _ _ h1
    obtain ⟨y2, e2, k2⟩ := (opens_int Tryd.underlying3) _ _ _ h2
    obtain ⟨y3, e3, k3⟩ := (opens_int Tryd.underlying3) _ _ _ h3
    obtain ⟨y4, v4, e4, s4⟩ := (opens_sl Tryd.underlying23 (by kernel_rfl) (opens_byte Tryd.underlying5)) _ _ _ h4
    simp only [rInt, rStr, rYes, rByte, rWord, repOf, List.cons.injEq, and_true] at e0 e1 e2 e3 e4
    subst e0
    subst e1
    subst e2
    subst e3
    subst e4
    exact ⟨⟨y0, y1, y2, y3, y4⟩, _, rfl, s4, ⟨k1, k2, k3⟩⟩
end Go.Proofs.YtdfjfagljngciaaDoor
