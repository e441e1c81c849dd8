/- The records of the program that are only read: what each is, how it lies in memory; printed by a program of this session (wip/tools/mkrep.py). -/
import Derived.Test.YtdfjfagljngciaaGreatRep
import Derived.Test.YtdfjfagljngciaaGreatProg
set_option linter.all false
set_option maxRecDepth 100000
namespace Go.Proofs.YtdfjfagljngciaaGreat
open Go.ChangeShapes Go.WideShapes Go.ChangeAt Go.RowKit Go.Deep Rx
/-- api.Entry. -/
structure Entry where
  name : ByteArray
  ino : Int
  deriving DecidableEq
instance : Inhabited Entry := ⟨⟨.empty, 0⟩⟩
def Entry.enc (x : Entry) : List Value := [.string x.name, .int .i64 x.ino]
/-- Its ints are ints. -/
def Entry.ok (x : Entry) : Prop := I64 x.ino
def rEntry : Rep Entry where
  n := 2
  pos := by omega
  R := fun _ _ x cs => cs = x.enc ∧ x.ok
  len := by rintro _ _ x _ ⟨rfl, -⟩; rfl
  step := by intro _ _ _ _ _ _ h _ _; exact h
  mono := by intro _ _ _ _ _ h _; exact h
theorem Sl.entry {X : Nat → Prop} {w : World} {v : Value} {l : List Entry} (h : Sl rEntry X w v l) {i : Nat} {x : Entry} (hx : l[i]? = some x) : ∃ b off c, v = .slice (some ⟨b, off, none⟩) l.length c ∧ b < w.heap.size ∧ ¬ X b ∧ x.ok ∧ w.cell? ⟨b, off + i * 2, none⟩ = some (.string x.name) ∧ w.cell? ⟨b, off + i * 2 + 1, none⟩ = some (.int .i64 x.ino) := by
  obtain ⟨b, off, c, cs, e, hb, hX, ⟨rfl, h_ok⟩, hc⟩ := h.elt hx
  exact ⟨b, off, c, e, hb, hX, h_ok, hc 0 _ rfl, hc 1 _ rfl⟩
theorem opens_Entry {H : Type} {enc : TypeId × Value → H} {w : World} : Opens enc Tryz.prog w rEntry 110 := by
  intro fuel cs x h
  obtain ⟨hl, n, hf⟩ := open_fields Tryz.underlying110 h
  rw [show Tryz.prog.cellsOf 110 = 2 from by kernel_rfl] at hl
  match cs, hl with
  | [c0, c1], _ =>
    have z0 : Tryz.prog.cellsOf 3 = 1 := by kernel_rfl
    have z1 : Tryz.prog.cellsOf 9 = 1 := by kernel_rfl
    obtain ⟨_, h0⟩ := hf 0 _ rfl
    obtain ⟨_, h1⟩ := hf 1 _ rfl
    simp [z0, z1] at h0 h1
    obtain ⟨y0, e0⟩ := (opens_str Tryz.underlying9) _ _ _ h0
    obtain ⟨y1, e1, k1⟩ := (opens_int Tryz.underlying3) _ _ _ h1
    simp only [rInt, rStr, rYes, rByte, rWord, repOf, List.cons.injEq, and_true] at e0 e1
    subst e0
    subst e1
    exact ⟨⟨y0, y1⟩, rfl, k1⟩
/-- api.Node. -/
structure Node where
  ino : Int
  kind : Int
  links : Int
  size : Int
  up : Int
  pages : List Int
  names : List Entry
  deriving DecidableEq
instance : Inhabited Node := ⟨⟨0, 0, 0, 0, 0, [], []⟩⟩
def Node.enc (x : Node) (d_pages : Value) (d_names : Value) : List Value := [.int .i64 x.ino, .int .i64 x.kind, .int .i64 x.links, .int .i64 x.size, .int .i64 x.up, d_pages, d_names]
/-- Its ints are ints. -/
def Node.ok (x : Node) : Prop := I64 x.ino ∧ I64 x.kind ∧ I64 x.links ∧ I64 x.size ∧ I64 x.up
def rNode : Rep Node where
  n := 7
  pos := by omega
  R := fun X w x cs => ∃ d_pages d_names, cs = x.enc d_pages d_names ∧ Sl rInt X w d_pages x.pages ∧ Sl rEntry X w d_names x.names ∧ x.ok
  len := by rintro _ _ _ _ ⟨d_pages, d_names, rfl, h_d_pages, h_d_names, h_ok⟩; rfl
  step := by rintro _ _ _ _ _ _ ⟨d_pages, d_names, rfl, h_d_pages, h_d_names, h_ok⟩ hs ho; exact ⟨d_pages, d_names, rfl, h_d_pages.step hs ho, h_d_names.step hs ho, h_ok⟩
  mono := by rintro _ _ _ _ _ ⟨d_pages, d_names, rfl, h_d_pages, h_d_names, h_ok⟩ hm; exact ⟨d_pages, d_names, rfl, h_d_pages.mono hm, h_d_names.mono hm, h_ok⟩
theorem Sl.node {X : Nat → Prop} {w : World} {v : Value} {l : List Node} (h : Sl rNode X w v l) {i : Nat} {x : Node} (hx : l[i]? = some x) : ∃ b off c d_pages d_names, v = .slice (some ⟨b, off, none⟩) l.length c ∧ b < w.heap.size ∧ ¬ X b ∧ x.ok ∧ Sl rInt X w d_pages x.pages ∧ Sl rEntry X w d_names x.names ∧ w.cell? ⟨b, off + i * 7, none⟩ = some (.int .i64 x.ino) ∧ w.cell? ⟨b, off + i * 7 + 1, none⟩ = some (.int .i64 x.kind) ∧ w.cell? ⟨b, off + i * 7 + 2, none⟩ = some (.int .i64 x.links) ∧ w.cell? ⟨b, off + i * 7 + 3, none⟩ = some (.int .i64 x.size) ∧ w.cell? ⟨b, off + i * 7 + 4, none⟩ = some (.int .i64 x.up) ∧ w.cell? ⟨b, off + i * 7 + 5, none⟩ = some (d_pages) ∧ w.cell? ⟨b, off + i * 7 + 6, none⟩ = some (d_names) := by
  obtain ⟨b, off, c, cs, e, hb, hX, ⟨d_pages, d_names, rfl, h_d_pages, h_d_names, h_ok⟩, hc⟩ := h.elt hx
  exact ⟨b, off, c, d_pages, d_names, e, hb, hX, h_ok, h_d_pages, h_d_names, hc 0 _ rfl, hc 1 _ rfl, hc 2 _ rfl, hc 3 _ rfl, hc 4 _ rfl, hc 5 _ rfl, hc 6 _ rfl⟩
theorem opens_Node {H : Type} {enc : TypeId × Value → H} {w : World} : Opens enc Tryz.prog w rNode 42 := by
  intro fuel cs x h
  obtain ⟨hl, n, hf⟩ := open_fields Tryz.underlying42 h
  rw [show Tryz.prog.cellsOf 42 = 7 from by kernel_rfl] at hl
  match cs, hl with
  | [c0, c1, c2, c3, c4, c5, c6], _ =>
    have z0 : Tryz.prog.cellsOf 40 = 1 := by kernel_rfl
    have z1 : Tryz.prog.cellsOf 39 = 1 := by kernel_rfl
    have z2 : Tryz.prog.cellsOf 3 = 1 := by kernel_rfl
    obtain ⟨_, h0⟩ := hf 0 _ rfl
    obtain ⟨_, h1⟩ := hf 1 _ rfl
    obtain ⟨_, h2⟩ := hf 2 _ rfl
    obtain ⟨_, h3⟩ := hf 3 _ rfl
    obtain ⟨_, h4⟩ := hf 4 _ rfl
    obtain ⟨_, h5⟩ := hf 5 _ rfl
    obtain ⟨_, h6⟩ := hf 6 _ rfl
    simp [z0, z1, z2] at h0 h1 h2 h3 h4 h5 h6
    obtain ⟨y0, e0, k0⟩ := (opens_int Tryz.underlying3) _ _ _ h0
    obtain ⟨y1, e1, k1⟩ := (opens_int Tryz.underlying3) _ _ _ h1
    obtain ⟨y2, e2, k2⟩ := (opens_int Tryz.underlying3) _ _ _ h2
    obtain ⟨y3, e3, k3⟩ := (opens_int Tryz.underlying3) _ _ _ h3
    obtain ⟨y4, e4, k4⟩ := (opens_int Tryz.underlying3) _ _ _ h4
    obtain ⟨y5, v5, e5, s5⟩ := (opens_sl Tryz.underlying39 (by kernel_rfl) (opens_int Tryz.underlying3)) _ _ _ h5
    obtain ⟨y6, v6, e6, s6⟩ := (opens_sl Tryz.underlying40 (by kernel_rfl) opens_Entry) _ _ _ h6
    simp only [rInt, rStr, rYes, rByte, rWord, repOf, List.cons.injEq, and_true] at e0 e1 e2 e3 e4 e5 e6
    subst e0
    subst e1
    subst e2
    subst e3
    subst e4
    subst e5
    subst e6
    exact ⟨⟨y0, y1, y2, y3, y4, y5, y6⟩, _, _, rfl, s5, s6, ⟨k0, k1, k2, k3, k4⟩⟩
/-- api.Effect. -/
structure Effect where
  kind : Int
  ino : Int
  dir : Int
  to : Int
  page : Int
  size : Int
  name : ByteArray
  other : ByteArray
  data : List UInt8
  deriving DecidableEq
instance : Inhabited Effect := ⟨⟨0, 0, 0, 0, 0, 0, .empty, .empty, []⟩⟩
def Effect.enc (x : Effect) (d_data : Value) : List Value := [.int .i64 x.kind, .int .i64 x.ino, .int .i64 x.dir, .int .i64 x.to, .int .i64 x.page, .int .i64 x.size, .string x.name, .string x.other, d_data]
/-- Its ints are ints. -/
def Effect.ok (x : Effect) : Prop := I64 x.kind ∧ I64 x.ino ∧ I64 x.dir ∧ I64 x.to ∧ I64 x.page ∧ I64 x.size
def rEffect : Rep Effect where
  n := 9
  pos := by omega
  R := fun X w x cs => ∃ d_data, cs = x.enc d_data ∧ Sl rByte X w d_data x.data ∧ x.ok
  len := by rintro _ _ _ _ ⟨d_data, rfl, h_d_data, h_ok⟩; rfl
  step := by rintro _ _ _ _ _ _ ⟨d_data, rfl, h_d_data, h_ok⟩ hs ho; exact ⟨d_data, rfl, h_d_data.step hs ho, h_ok⟩
  mono := by rintro _ _ _ _ _ ⟨d_data, rfl, h_d_data, h_ok⟩ hm; exact ⟨d_data, rfl, h_d_data.mono hm, h_ok⟩
theorem Sl.effect {X : Nat → Prop} {w : World} {v : Value} {l : List Effect} (h : Sl rEffect X w v l) {i : Nat} {x : Effect} (hx : l[i]? = some x) : ∃ b off c d_data, v = .slice (some ⟨b, off, none⟩) l.length c ∧ b < w.heap.size ∧ ¬ X b ∧ x.ok ∧ Sl rByte X w d_data x.data ∧ w.cell? ⟨b, off + i * 9, none⟩ = some (.int .i64 x.kind) ∧ w.cell? ⟨b, off + i * 9 + 1, none⟩ = some (.int .i64 x.ino) ∧ w.cell? ⟨b, off + i * 9 + 2, none⟩ = some (.int .i64 x.dir) ∧ w.cell? ⟨b, off + i * 9 + 3, none⟩ = some (.int .i64 x.to) ∧ w.cell? ⟨b, off + i * 9 + 4, none⟩ = some (.int .i64 x.page) ∧ w.cell? ⟨b, off + i * 9 + 5, none⟩ = some (.int .i64 x.size) ∧ w.cell? ⟨b, off + i * 9 + 6, none⟩ = some (.string x.name) ∧ w.cell? ⟨b, off + i * 9 + 7, none⟩ = some (.string x.other) ∧ w.cell? ⟨b, off + i * 9 + 8, none⟩ = some (d_data) := by
  obtain ⟨b, off, c, cs, e, hb, hX, ⟨d_data, rfl, h_d_data, h_ok⟩, hc⟩ := h.elt hx
  exact ⟨b, off, c, d_data, e, hb, hX, h_ok, h_d_data, hc 0 _ rfl, hc 1 _ rfl, hc 2 _ rfl, hc 3 _ rfl, hc 4 _ rfl, hc 5 _ rfl, hc 6 _ rfl, hc 7 _ rfl, hc 8 _ rfl⟩
theorem opens_Effect {H : Type} {enc : TypeId × Value → H} {w : World} : Opens enc Tryz.prog w rEffect 25 := by
  intro fuel cs x h
  obtain ⟨hl, n, hf⟩ := open_fields Tryz.underlying25 h
  rw [show Tryz.prog.cellsOf 25 = 9 from by kernel_rfl] at hl
  match cs, hl with
  | [c0, c1, c2, c3, c4, c5, c6, c7, c8], _ =>
    have z0 : Tryz.prog.cellsOf 23 = 1 := by kernel_rfl
    have z1 : Tryz.prog.cellsOf 3 = 1 := by kernel_rfl
    have z2 : Tryz.prog.cellsOf 9 = 1 := by kernel_rfl
    obtain ⟨_, h0⟩ := hf 0 _ rfl
    obtain ⟨_, h1⟩ := hf 1 _ rfl
    obtain ⟨_, h2⟩ := hf 2 _ rfl
    obtain ⟨_, h3⟩ := hf 3 _ rfl
    obtain ⟨_, h4⟩ := hf 4 _ rfl
    obtain ⟨_, h5⟩ := hf 5 _ rfl
    obtain ⟨_, h6⟩ := hf 6 _ rfl
    obtain ⟨_, h7⟩ := hf 7 _ rfl
    obtain ⟨_, h8⟩ := hf 8 _ rfl
    simp [z0, z1, z2] at h0 h1 h2 h3 h4 h5 h6 h7 h8
    obtain ⟨y0, e0, k0⟩ := (opens_int Tryz.underlying3) _ _ _ h0
    obtain ⟨y1, e1, k1⟩ := (opens_int Tryz.underlying3) _ _ _ h1
    obtain ⟨y2, e2, k2⟩ := (opens_int Tryz.underlying3) _ _ _ h2
    obtain ⟨y3, e3, k3⟩ := (opens_int Tryz.underlying3) _ _ _ h3
    obtain ⟨y4, e4, k4⟩ := (opens_int Tryz.underlying3) _ _ _ h4
    obtain ⟨y5, e5, k5⟩ := (opens_int Tryz.underlying3) _ _ _ h5
    obtain ⟨y6, e6⟩ := (opens_str Tryz.underlying9) _ _ _ h6
    obtain ⟨y7, e7⟩ := (opens_str Tryz.underlying9) _ _ _ h7
    obtain ⟨y8, v8, e8, s8⟩ := (opens_sl Tryz.underlying23 (by kernel_rfl) (opens_byte Tryz.underlying5)) _ _ _ h8
    simp only [rInt, rStr, rYes, rByte, rWord, repOf, List.cons.injEq, and_true] at e0 e1 e2 e3 e4 e5 e6 e7 e8
    subst e0
    subst e1
    subst e2
    subst e3
    subst e4
    subst e5
    subst e6
    subst e7
    subst e8
    exact ⟨⟨y0, y1, y2, y3, y4, y5, y6, y7, y8⟩, _, rfl, s8, ⟨k0, k1, k2, k3, k4, k5⟩⟩
/-- sumplaw16.Deed. -/
structure Deed16 where
  e : Effect
  ref : Int
  deriving DecidableEq
instance : Inhabited Deed16 := ⟨⟨default, 0⟩⟩
def Deed16.enc (x : Deed16) (d_e_data : Value) : List Value := [.int .i64 x.e.kind, .int .i64 x.e.ino, .int .i64 x.e.dir, .int .i64 x.e.to, .int .i64 x.e.page, .int .i64 x.e.size, .string x.e.name, .string x.e.other, d_e_data, .int .i64 x.ref]
/-- Its ints are ints. -/
def Deed16.ok (x : Deed16) : Prop := x.e.ok ∧ I64 x.ref
def rDeed16 : Rep Deed16 where
  n := 10
  pos := by omega
  R := fun X w x cs => ∃ d_e_data, cs = x.enc d_e_data ∧ Sl rByte X w d_e_data x.e.data ∧ x.ok
  len := by rintro _ _ _ _ ⟨d_e_data, rfl, h_d_e_data, h_ok⟩; rfl
  step := by rintro _ _ _ _ _ _ ⟨d_e_data, rfl, h_d_e_data, h_ok⟩ hs ho; exact ⟨d_e_data, rfl, h_d_e_data.step hs ho, h_ok⟩
  mono := by rintro _ _ _ _ _ ⟨d_e_data, rfl, h_d_e_data, h_ok⟩ hm; exact ⟨d_e_data, rfl, h_d_e_data.mono hm, h_ok⟩
theorem Sl.deed16 {X : Nat → Prop} {w : World} {v : Value} {l : List Deed16} (h : Sl rDeed16 X w v l) {i : Nat} {x : Deed16} (hx : l[i]? = some x) : ∃ b off c d_e_data, v = .slice (some ⟨b, off, none⟩) l.length c ∧ b < w.heap.size ∧ ¬ X b ∧ x.ok ∧ Sl rByte X w d_e_data x.e.data ∧ w.cell? ⟨b, off + i * 10, none⟩ = some (.int .i64 x.e.kind) ∧ w.cell? ⟨b, off + i * 10 + 1, none⟩ = some (.int .i64 x.e.ino) ∧ w.cell? ⟨b, off + i * 10 + 2, none⟩ = some (.int .i64 x.e.dir) ∧ w.cell? ⟨b, off + i * 10 + 3, none⟩ = some (.int .i64 x.e.to) ∧ w.cell? ⟨b, off + i * 10 + 4, none⟩ = some (.int .i64 x.e.page) ∧ w.cell? ⟨b, off + i * 10 + 5, none⟩ = some (.int .i64 x.e.size) ∧ w.cell? ⟨b, off + i * 10 + 6, none⟩ = some (.string x.e.name) ∧ w.cell? ⟨b, off + i * 10 + 7, none⟩ = some (.string x.e.other) ∧ w.cell? ⟨b, off + i * 10 + 8, none⟩ = some (d_e_data) ∧ w.cell? ⟨b, off + i * 10 + 9, none⟩ = some (.int .i64 x.ref) := by
  obtain ⟨b, off, c, cs, e, hb, hX, ⟨d_e_data, rfl, h_d_e_data, h_ok⟩, hc⟩ := h.elt hx
  exact ⟨b, off, c, d_e_data, e, hb, hX, h_ok, h_d_e_data, hc 0 _ rfl, hc 1 _ rfl, hc 2 _ rfl, hc 3 _ rfl, hc 4 _ rfl, hc 5 _ rfl, hc 6 _ rfl, hc 7 _ rfl, hc 8 _ rfl, hc 9 _ rfl⟩
theorem opens_Deed16 {H : Type} {enc : TypeId × Value → H} {w : World} : Opens enc Tryz.prog w rDeed16 27 := by
  intro fuel cs x h
  obtain ⟨hl, n, hf⟩ := open_fields Tryz.underlying27 h
  rw [show Tryz.prog.cellsOf 27 = 10 from by kernel_rfl] at hl
  match cs, hl with
  | [c0, c1, c2, c3, c4, c5, c6, c7, c8, c9], _ =>
    have z0 : Tryz.prog.cellsOf 25 = 9 := by kernel_rfl
    have z1 : Tryz.prog.cellsOf 3 = 1 := by kernel_rfl
    obtain ⟨_, h0⟩ := hf 0 _ rfl
    obtain ⟨_, h1⟩ := hf 1 _ rfl
    simp [z0, z1] at h0 h1
    obtain ⟨y0, v0_0, e0, s0_0, k0⟩ := opens_Effect _ _ _ h0
    obtain ⟨y1, e1, k1⟩ := (opens_int Tryz.underlying3) _ _ _ h1
    simp only [rInt, rStr, rYes, rByte, rWord, repOf, rEffect, Effect.enc, List.cons.injEq, and_true] at e0 e1
    obtain ⟨rfl, rfl, rfl, rfl, rfl, rfl, rfl, rfl, rfl⟩ := e0
    subst e1
    exact ⟨⟨y0, y1⟩, _, rfl, s0_0, ⟨k0, k1⟩⟩
/-- api.Geom. -/
structure Geom where
  pages : Int
  bank : Int
  image : Int
  log : Int
  data : Int
  deriving DecidableEq
instance : Inhabited Geom := ⟨⟨0, 0, 0, 0, 0⟩⟩
def Geom.enc (x : Geom) : List Value := [.int .i64 x.pages, .int .i64 x.bank, .int .i64 x.image, .int .i64 x.log, .int .i64 x.data]
/-- Its ints are ints. -/
def Geom.ok (x : Geom) : Prop := I64 x.pages ∧ I64 x.bank ∧ I64 x.image ∧ I64 x.log ∧ I64 x.data
def rGeom : Rep Geom where
  n := 5
  pos := by omega
  R := fun _ _ x cs => cs = x.enc ∧ x.ok
  len := by rintro _ _ x _ ⟨rfl, -⟩; rfl
  step := by intro _ _ _ _ _ _ h _ _; exact h
  mono := by intro _ _ _ _ _ h _; exact h
theorem Sl.geom {X : Nat → Prop} {w : World} {v : Value} {l : List Geom} (h : Sl rGeom X w v l) {i : Nat} {x : Geom} (hx : l[i]? = some x) : ∃ b off c, v = .slice (some ⟨b, off, none⟩) l.length c ∧ b < w.heap.size ∧ ¬ X b ∧ x.ok ∧ w.cell? ⟨b, off + i * 5, none⟩ = some (.int .i64 x.pages) ∧ w.cell? ⟨b, off + i * 5 + 1, none⟩ = some (.int .i64 x.bank) ∧ w.cell? ⟨b, off + i * 5 + 2, none⟩ = some (.int .i64 x.image) ∧ w.cell? ⟨b, off + i * 5 + 3, none⟩ = some (.int .i64 x.log) ∧ w.cell? ⟨b, off + i * 5 + 4, none⟩ = some (.int .i64 x.data) := by
  obtain ⟨b, off, c, cs, e, hb, hX, ⟨rfl, h_ok⟩, hc⟩ := h.elt hx
  exact ⟨b, off, c, e, hb, hX, h_ok, hc 0 _ rfl, hc 1 _ rfl, hc 2 _ rfl, hc 3 _ rfl, hc 4 _ rfl⟩
theorem opens_Geom {H : Type} {enc : TypeId × Value → H} {w : World} : Opens enc Tryz.prog w rGeom 31 := by
  intro fuel cs x h
  obtain ⟨hl, n, hf⟩ := open_fields Tryz.underlying31 h
  rw [show Tryz.prog.cellsOf 31 = 5 from by kernel_rfl] at hl
  match cs, hl with
  | [c0, c1, c2, c3, c4], _ =>
    have z0 : Tryz.prog.cellsOf 3 = 1 := by kernel_rfl
    obtain ⟨_, h0⟩ := hf 0 _ rfl
    obtain ⟨_, h1⟩ := hf 1 _ rfl
    obtain ⟨_, h2⟩ := hf 2 _ rfl
    obtain ⟨_, h3⟩ := hf 3 _ rfl
    obtain ⟨_, h4⟩ := hf 4 _ rfl
    simp [z0] at h0 h1 h2 h3 h4
    obtain ⟨y0, e0, k0⟩ := (opens_int Tryz.underlying3) _ _ _ h0
    obtain ⟨y1, e1, k1⟩ := (opens_int Tryz.underlying3) _ _ _ h1
    obtain ⟨y2, e2, k2⟩ := (opens_int Tryz.underlying3) _ _ _ h2
    obtain ⟨y3, e3, k3⟩ := (opens_int Tryz.underlying3) _ _ _ h3
    obtain ⟨y4, e4, k4⟩ := (opens_int Tryz.underlying3) _ _ _ h4
    simp only [rInt, rStr, rYes, rByte, rWord, repOf, List.cons.injEq, and_true] at e0 e1 e2 e3 e4
    subst e0
    subst e1
    subst e2
    subst e3
    subst e4
    exact ⟨⟨y0, y1, y2, y3, y4⟩, rfl, ⟨k0, k1, k2, k3, k4⟩⟩
end Go.Proofs.YtdfjfagljngciaaGreat
