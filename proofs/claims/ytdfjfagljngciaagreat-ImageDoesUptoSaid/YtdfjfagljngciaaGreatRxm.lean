/- More of the executor: a load, a store and an append are stops of their own, so that a fact on many cells can be used at once. -/
import Derived.Test.YtdfjfagljngciaaGreatRx
import Derived.Deep.MidRow
import Derived.WalkSpells
set_option linter.all false
namespace Go.Proofs.YtdfjfagljngciaaGreat.Rx
open Go.RowKit

def loadF (P : Program) (t : TypeId) (k : Value → World → Prop) (a : Value) (w : World) : Prop := upon P k ((do pure (.value (← Instr.loadAt t a)) : Sem Next).run P w)
def storeF (P : Program) (t : TypeId) (k : Value → World → Prop) (a x : Value) (w : World) : Prop := upon P k ((do Instr.storeAt t a x; pure .skip : Sem Next).run P w)
def appF (P : Program) (ts : Array TypeId) (ty : TypeId) (k : Value → World → Prop) (s x : Value) (w : World) : Prop := upon P k ((do pure (.value (← Builtin.append_ ts ty #[s, x])) : Sem Next).run P w)
def loadV (P : Program) (t : TypeId) (k : Value → Prop) (a : Value) (w : World) : Prop := uponV k ((do pure (.value (← Instr.loadAt t a)) : Sem Next).run P w)

section
variable {P : Program} {env : Env} {w : World} {k : Value → World → Prop} {tk : Tag k} {dst : Option Tmp} {t ty : TypeId} {ts : Array TypeId} {x y : Operand} {pos : String} {af : Array Edge} {g : Option (Nat × Bool)}
@[go_sem ↓ high] theorem upon_load : upon P (Shut k tk) ((execOp (rho env) ⟨dst, .load t x, ty, pos, af, g⟩).run P w) = loadF P t (Shut k .mk) (rho env x) w := nd rfl
@[go_sem ↓ high] theorem upon_store : upon P (Shut k tk) ((execOp (rho env) ⟨dst, .store t x y, ty, pos, af, g⟩).run P w) = storeF P t (Shut k .mk) (rho env x) (rho env y) w := nd rfl
@[go_sem ↓ high] theorem upon_append : upon P (Shut k tk) ((execOp (rho env) ⟨dst, .call { callee := .builtin .append, args := #[x, y], argTypes := ts }, ty, pos, af, g⟩).run P w) = appF P ts ty (Shut k .mk) (rho env x) (rho env y) w := by
  unfold appF Shut; simp [execOp, resolve, invoke, builtin]
@[go_sem ↓ high] theorem uponV_load {k : Value → Prop} {tk : Tag k} : uponV (Shut k tk) ((execOp (rho env) ⟨dst, .load t x, ty, pos, af, g⟩).run P w) = loadV P t (Shut k .mk) (rho env x) w := nd rfl
@[go_sem low] theorem loadF_eq (a : Value) : loadF P t (Shut k tk) a w = upon P (Shut k .mk) ((do pure (.value (← Instr.loadAt t a)) : Sem Next).run P w) := nd rfl
@[go_sem low] theorem storeF_eq (a u : Value) : storeF P t (Shut k tk) a u w = upon P (Shut k .mk) ((do Instr.storeAt t a u; pure .skip : Sem Next).run P w) := nd rfl
@[go_sem low] theorem loadV_eq {k : Value → Prop} {tk : Tag k} (a : Value) : loadV P t (Shut k tk) a w = uponV (Shut k .mk) ((do pure (.value (← Instr.loadAt t a)) : Sem Next).run P w) := nd rfl
theorem loadF_of {a u : Value} (h : (Instr.loadAt t a).run P w = .ok u w) (k : Value → World → Prop) (tk : Tag k) : loadF P t (Shut k tk) a w = k u w := by
  simp [loadF, Sem.run_bind, h, Shut, upon]
theorem loadV_of {a u : Value} (h : (Instr.loadAt t a).run P w = .ok u w) (k : Value → Prop) (tk : Tag k) : loadV P t (Shut k tk) a w = k u := by
  simp [loadV, Sem.run_bind, h, Shut, uponV]
theorem storeF_of {a u : Value} {w' : World} (h : (Instr.storeAt t a u).run P w = .ok () w') (k : Value → World → Prop) (tk : Tag k) : storeF P t (Shut k tk) a u w = k undef w' := by
  simp [storeF, Sem.run_bind, h, Shut, upon]
theorem appF_intro {s x v : Value} {w' : World} (h : (Builtin.append_ ts ty #[s, x]).run P w = .ok v w') (hk : k v w') : appF P ts ty (Shut k tk) s x w := by
  simp [appF, Sem.run_bind, h, Shut, upon, hk]
end

/-! A part that is put into a record that is built. -/
def putC (cells : Array Value) (off : Nat) (v : Value) : Array Value := v.cells.zipIdx.foldl (fun cs (c, j) => cs.setIfInBounds (off + j) c) cells
def putL : Array Value → Nat → List Value → Array Value
  | cells, _, [] => cells
  | cells, off, x :: r => putL (cells.setIfInBounds off x) (off + 1) r
theorem putC_list (l : List Value) : ∀ (cells : Array Value) (off i : Nat), (l.zipIdx i).foldl (fun cs (x : Value × Nat) => cs.setIfInBounds (off + x.2) x.1) cells = putL cells (off + i) l := by
  induction l with
  | nil => intros; rfl
  | cons x r ih =>
    intro cells off i
    rw [List.zipIdx_cons, List.foldl_cons, ih]
    rfl
theorem putC_agg_eq (l : List Value) (cells : Array Value) (off : Nat) : putC cells off (.agg l.toArray) = putL cells off l := by
  have := putC_list l cells off 0
  unfold putC Value.cells
  simp only [Nat.add_zero] at this
  rw [← this]
  simp
/-- 'Instr.fill' under a name that simp opens by these equations alone. -/
def fillL (place : Nat → Option (Nat × Nat)) (cells : Array Value) (l : List (Nat × Value)) : Option (Array Value) := Instr.fill place cells l
@[go_sem ↓ high] theorem fill_lit (place : Nat → Option (Nat × Nat)) (cells : Array Value) (l : List (Nat × Value)) : Instr.fill place cells (l.toArray).toList = fillL place cells l := nd rfl
@[go_sem ↓ high] theorem fill_map {α : Type} (f : α → Nat × Value) (place : Nat → Option (Nat × Nat)) (cells : Array Value) (l : List α) : Instr.fill place cells (Array.map f l.toArray).toList = fillL place cells (l.map f) := by simp [fillL]
@[go_sem ↓ high] theorem fill_list (place : Nat → Option (Nat × Nat)) (cells : Array Value) (i : Nat) (v : Value) (l : List (Nat × Value)) : Instr.fill place cells ((i, v) :: l) = fillL place cells ((i, v) :: l) := nd rfl
@[go_sem] theorem fillL_nil (place : Nat → Option (Nat × Nat)) (cells : Array Value) : fillL place cells [] = some cells := nd rfl
@[go_sem] theorem fillL_cons (place : Nat → Option (Nat × Nat)) (cells : Array Value) (i : Nat) (v : Value) (rest : List (Nat × Value)) : fillL place cells ((i, v) :: rest) =
    match place i with
    | none => none
    | some (off, size) => if v.cells.size ≠ size || off + v.cells.size > cells.size then none else fillL place (putC cells off v) rest := nd rfl
@[go_sem] theorem putC_agg (l : List Value) (cells : Array Value) (off : Nat) : putC cells off (.agg l.toArray) = putL cells off l := putC_agg_eq l cells off
@[go_sem] theorem putL_nil (cells : Array Value) (off : Nat) : putL cells off [] = cells := nd rfl
@[go_sem] theorem putL_cons (cells : Array Value) (off : Nat) (x : Value) (r : List Value) : putL cells off (x :: r) = putL (cells.setIfInBounds off x) (off + 1) r := nd rfl
section
variable (cells : Array Value) (off : Nat)
theorem putC_one {v : Value} (h : v.cells = #[v]) : putC cells off v = cells.setIfInBounds off v := by
  unfold putC; rw [h]; simp
@[go_sem] theorem putC_int (k : IntKind) (n : Int) : putC cells off (.int k n) = cells.setIfInBounds off (.int k n) := putC_one _ _ rfl
@[go_sem] theorem putC_bool (n : Bool) : putC cells off (.bool n) = cells.setIfInBounds off (.bool n) := putC_one _ _ rfl
@[go_sem] theorem putC_string (n : ByteArray) : putC cells off (.string n) = cells.setIfInBounds off (.string n) := putC_one _ _ rfl
@[go_sem] theorem putC_pointer (n : Option Addr) : putC cells off (.pointer n) = cells.setIfInBounds off (.pointer n) := putC_one _ _ rfl
@[go_sem] theorem putC_slice (n : Option Addr) (a b : Nat) : putC cells off (.slice n a b) = cells.setIfInBounds off (.slice n a b) := putC_one _ _ rfl
@[go_sem] theorem putC_map (n : Option Nat) : putC cells off (.map n) = cells.setIfInBounds off (.map n) := putC_one _ _ rfl
@[go_sem] theorem putC_nilFunc : putC cells off .nilFunc = cells.setIfInBounds off .nilFunc := putC_one _ _ rfl
@[go_sem] theorem putC_func (f : Fn) (a b : Array Value) : putC cells off (.func f a b) = cells.setIfInBounds off (.func f a b) := putC_one _ _ rfl
@[go_sem] theorem putC_iface (t : TypeId) (v : Value) : putC cells off (.iface t v) = cells.setIfInBounds off (.iface t v) := putC_one _ _ rfl
@[go_sem] theorem putC_nilIface : putC cells off .nilIface = cells.setIfInBounds off .nilIface := putC_one _ _ rfl
end
end Go.Proofs.YtdfjfagljngciaaGreat.Rx
