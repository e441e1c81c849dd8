/- A symbolic executor's laws over the model's code: what a piece of code does, as a formula over a small list of slots; no program in sight. -/
import Derived.WalkKit
import Derived.ScopeJumps
import Derived.OrdersHeld
import Derived.OrdersIn
import Derived.TacticsIn
import Derived.RangeFuncLeaves
import Derived.RangeFuncRecord
set_option linter.all false
namespace Go.Proofs.YtdfjfagljngciaaGreat
open Go.RowKit
/-- From w to w' only blocks of O, and new ones, have changed. -/
structure Step (O : Nat → Prop) (w w' : World) : Prop where
  os : w'.os = w.os
  tape : w'.tape = w.tape
  output : w'.output = w.output
  size : w.heap.size ≤ w'.heap.size
  block : ∀ k, k < w.heap.size → ¬ O k → w'.heap[k]? = w.heap[k]?
/-- Nothing that was there has changed. -/
abbrev Keep (w w' : World) : Prop := Step (fun _ => False) w w'

theorem Step.refl (O : Nat → Prop) (w : World) : Step O w w := ⟨rfl, rfl, rfl, Nat.le_refl _, fun _ _ _ => rfl⟩
theorem Step.trans {O O' : Nat → Prop} {a b c : World} (h : Step O a b) (k : Step O' b c) (ho : ∀ i, i < a.heap.size → O' i → O i) : Step O a c :=
  ⟨k.os.trans h.os, k.tape.trans h.tape, k.output.trans h.output, Nat.le_trans h.size k.size, fun i hi hn => (k.block i (Nat.lt_of_lt_of_le hi h.size) (fun q => hn (ho i hi q))).trans (h.block i hi hn)⟩
theorem Step.mono {O O' : Nat → Prop} {a b : World} (h : Step O a b) (ho : ∀ i, i < a.heap.size → O i → O' i) : Step O' a b := ⟨h.os, h.tape, h.output, h.size, fun i hi hn => h.block i hi (fun q => hn (ho i hi q))⟩
theorem Step.keep {O O' : Nat → Prop} {a b c : World} (h : Step O a b) (k : Step O' b c) (ho : ∀ i, O' i → a.heap.size ≤ i) : Step O a c := h.trans k (fun i hi hq => absurd (ho i hq) (by omega))
theorem Step.then {O : Nat → Prop} {a b c : World} (h : Step O a b) (k : Keep b c) : Step O a c := h.trans k (fun _ _ q => q.elim)
theorem Step.both {O : Nat → Prop} {a b c : World} (h : Step O a b) (k : Step O b c) : Step O a c := h.trans k (fun _ _ q => q)
theorem Step.alloc {O : Nat → Prop} {a w : World} (h : Step O a w) (o : Obj) : Step O a (w.alloc o) :=
  h.then ⟨rfl, rfl, rfl, by simp, fun k hk _ => Below.heap_alloc _ _ _ (by omega)⟩
theorem Step.drew {O : Nat → Prop} {a w : World} (h : Step O a w) : Step O a w.drew := ⟨h.os, h.tape, h.output, h.size, h.block⟩
theorem Step.blk {O : Nat → Prop} {w w' : World} (h : Step O w w') {b : Nat} {o : Obj} (hb : w.heap[b]? = some o) (hn : ¬ O b) : w'.heap[b]? = some o :=
  (h.block b (Array.getElem?_eq_some_iff.1 hb).1 hn).trans hb
theorem Step.lt {O : Nat → Prop} {w w' : World} (h : Step O w w') {b : Nat} (hb : b < w.heap.size) : b < w'.heap.size := Nat.lt_of_lt_of_le hb h.size
theorem step_put (w : World) (r : Nat) (o : Obj) : Step (fun k => k = r) w (w.putObj r o) := ⟨rfl, rfl, rfl, by simp, fun k _ hn => World.putObj_heap_other hn⟩
theorem Keep.any {O : Nat → Prop} {a b : World} (h : Keep a b) : Step O a b := Step.mono h (fun _ _ q => q.elim)
end Go.Proofs.YtdfjfagljngciaaGreat
namespace Go.Proofs.YtdfjfagljngciaaGreat.Rx
open Go.RowKit

abbrev Env := List (Nat × (Bool × Value))

def get : Env → Nat → Option (Bool × Value)
  | [], _ => none
  | (s, e) :: r, t => if s = t then some e else get r t

def ent (env : Env) : Operand → Option (Bool × Value)
  | .tmp t => get env t
  | .const v => some (true, v)
  | .global g => some (true, .pointer (some ⟨g, 0, none⟩))
  | .func f => some (true, .func (.func f) #[] #[])

def vOf : Option (Bool × Value) → Value
  | some (_, v) => v
  | none => undef
def rho (env : Env) (x : Operand) : Value := vOf (ent env x)

def okE (c : Bool) : Option (Bool × Value) → Prop
  | some (c', _) => c = true → c' = true
  | none => False
def okAll (env : Env) (c : Bool) : List Operand → Prop
  | [] => True
  | x :: r => okE c (ent env x) ∧ okAll env c r

def put (env : Env) (d : Option Nat) (c : Bool) (v : Value) : Env :=
  match d with
  | none => env
  | some d => (d, (c, v)) :: env

def cv (c : Bool) (v : Value) : Value := if c = true then v else undef

/-- What a range over a function has left among the deferred calls: kept in the list of slots, under a number that no slot has. -/
def marksE : Option (Bool × Value) → List Deferred
  | some (_, .int _ d) => [{ target := .collected d.toNat, args := #[] }]
  | _ => []
structure Fits (n : Nat) (env : Env) (a : Act) : Prop where
  size : a.tmps.size = n
  lim : n ≤ 1000003
  defers : a.defers = marksE (get env 1000003)
  has : ∀ t c v, get env t = some (c, v) → a.tmps.getD t undef = cv c v

theorem Fits.put {n : Nat} {env : Env} {a : Act} (h : Fits n env a) {d : Option Nat} {c : Bool} {v : Value} (hd : ∀ t, d = some t → t < n) :
    Fits n (put env d c v) (a.put d (cv c v)) := by
  cases d with
  | none => exact h
  | some d =>
    have hd' := hd d rfl
    have hl := h.lim
    have hne : ¬ d = 1000003 := by omega
    refine ⟨by simp [Act.put, h.size], h.lim, by simp [Act.put, h.defers, Rx.put, get, hne], fun t c' v' hg => ?_⟩
    simp only [Rx.put, get] at hg
    by_cases e : d = t
    · subst e
      simp only [if_true, Option.some.injEq, Prod.mk.injEq] at hg
      obtain ⟨rfl, rfl⟩ := hg
      have : d < a.tmps.size := by rw [h.size]; exact hd'
      simp [Act.put, this]
    · rw [if_neg e] at hg
      have := h.has t c' v' hg
      simp only [Act.put]
      rw [← this]
      simp [Array.getD_eq_getD_getElem?, e]

/-- An operand that the state knows, under the condition c. -/
theorem Fits.eval {n : Nat} {env : Env} {a : Act} (h : Fits n env a) {x : Operand} (hx : okE true (ent env x)) : rho env x = a.eval x := by
  cases x with
  | tmp t =>
    simp only [ent] at hx
    generalize hg : get env t = e at hx
    cases e with
    | none => exact hx.elim
    | some p =>
      obtain ⟨c, v⟩ := p
      have hc : c = true := hx rfl
      subst hc
      have := h.has t true v hg
      simp only [rho, ent, hg, vOf, Act.eval, this, cv, if_true]
  | const v => rfl
  | global g => rfl
  | func f => rfl
theorem okE_on {c : Bool} {e : Option (Bool × Value)} (h : okE c e) (hc : c = true) : okE true e := by
  cases e with
  | none => exact h
  | some p => exact fun _ => h hc
theorem okAll_mem {env : Env} {c : Bool} {l : List Operand} (h : okAll env c l) : ∀ x ∈ l, okE c (ent env x) := by
  induction l with
  | nil => simp
  | cons y r ih =>
    intro x hx
    rcases List.mem_cons.1 hx with rfl | hx
    · exact h.1
    · exact ih h.2 x hx

/-- What a call leaves: what the callee hands back. -/
def Ret (k : Value → World → Prop) : Ending → World → Prop := fun e w => ∃ v, e = .returned v ∧ k v w

def upon (P : Program) (k : Value → World → Prop) : Result Next → Prop
  | .ok (.value v) w => k v w
  | .ok .skip w => k undef w
  | .ok (.enter f args) w => Calls P f args w (Ret k)
  | .ok (.round l f tmps assign body) w => RoundIn Fence.wide 0 P l f tmps assign body w (Ret k)
  | _ => False

/-- One operation, of whichever frame. -/
def wpX (P : Program) (o : Oper) (a : Act) (w : World) (K : Act → World → Prop) (Q : Exit → Act → World → Prop) : Prop :=
  o.uponIn Fence.wide 1 P a K Q ((execOp a.eval o).run P w)
theorem wp_of_upon {P : Program} {o : Oper} {a : Act} {w : World} {K : Act → World → Prop} {Q : Exit → Act → World → Prop} {k : Value → World → Prop}
    (h : upon P k ((execOp a.eval o).run P w)) (hk : ∀ v w', k v w' → K (a.put o.dst v) w') : wpX P o a w K Q := by
  unfold wpX
  generalize (execOp a.eval o).run P w = r at h
  cases r with
  | ok nx w' =>
    cases nx <;> simp only [upon] at h <;> simp only [Oper.uponIn]
    case value v => exact hk _ _ h
    case skip => exact hk _ _ h
    case enter f args => exact ⟨fun _ => Nat.le_refl _, callsIn_wide.2 (h.mono fun e w'' ⟨v, he, hv⟩ => by subst he; exact hk _ _ hv)⟩
    case round l f tmps assign body => exact ⟨fun _ => Nat.le_refl _, h.mono fun e w'' ⟨v, he, hv⟩ => by subst he; exact hk _ _ hv⟩
  | halt x w' => exact h.elim
theorem wpX_mono {P : Program} {o : Oper} {a : Act} {w : World} {Q : Exit → Act → World → Prop} {K K' : Act → World → Prop} (h : ∀ a w, K a w → K' a w) (hh : wpX P o a w K Q) : wpX P o a w K' Q := by
  unfold wpX at *
  generalize (execOp a.eval o).run P w = r at *
  cases r with
  | ok x w' =>
    cases x <;> simp only [Oper.uponIn] at hh ⊢ <;>
      first
        | exact h _ _ hh
        | exact ⟨hh.1, CallsIn.mono hh.2 (fun e w'' he => by cases e <;> first | exact h _ _ he | exact he)⟩
        | exact ⟨hh.1, RowsIn.mono hh.2 (fun _ _ he => h _ _ he)⟩
        | exact ⟨hh.1, RoundIn.mono hh.2 (fun e w'' he => by cases e <;> first | exact h _ _ he | exact he)⟩
  | halt x w' => cases x <;> simp only [Oper.uponIn] at hh ⊢ <;> exact hh
/-- A fence that shuts nothing out; a frame of a function, or of a round. -/
structure Free (F : Fence) : Prop where
  fn : ∀ f, F.fn f
  depth : F.depth = none
  same : ∀ P m, Machine.fenced P F m
theorem Free.wide : Free Fence.wide := ⟨fun _ => trivial, rfl, fun P m => fenced_wide P m⟩
theorem Free.inRound {F : Fence} (h : Free F) (l : Nat) : Free (F.inRound l) := ⟨h.fn, h.depth, h.same⟩
theorem Free.room {F : Fence} (h : Free F) (k : Nat) : F.room k := fun d hd => by rw [h.depth] at hd; cases hd
theorem Free.steps {F F' : Fence} (h : Free F) {P : Program} {m m' : Machine} (hs : StepsIn (Machine.fenced P F') P m m') : StepsIn (Machine.fenced P F) P m m' := hs.mono fun m _ => h.same P m
theorem Free.comes {F F' : Fence} (h : Free F) {P : Program} {m m' : Machine} {e : Ending} (hs : ComesIn (Machine.fenced P F') P m m' e) : ComesIn (Machine.fenced P F) P m m' e := by
  cases e with
  | returned v => exact h.steps hs
  | panicked c => exact h.steps hs
  | outgrown => exact hs
theorem Free.calls {F : Fence} (h : Free F) {P : Program} {n m : Nat} {f : FuncId} {args : Array Value} {w : World} {R : Ending → World → Prop} (hc : CallsIn Fence.wide m P f args w R) : CallsIn F n P f args w R :=
  ⟨h.fn f, fun cs _ => let ⟨e, w', fr, r, s, x⟩ := hc.2 cs (room_wide _); ⟨e, w', fr, r, h.comes s, x⟩⟩
theorem wpX_in {P : Program} {F : Fence} (hF : Free F) {n : Nat} {o : Oper} (hd : ∀ c, o.op ≠ .defer c) {a : Act} {w : World} {Q : Exit → Act → World → Prop} {K : Act → World → Prop} (h : wpX P o a w K Q) : o.wpIn F n P a w K Q := by
  refine ⟨fun f _ => hF.fn f, ?_⟩
  rw [Oper.semAt_eq _ _ _ hd]
  unfold wpX at h
  generalize (execOp a.eval o).run P w = r at *
  have hn : F.depth.isSome = true → 1 ≤ n := fun q => by rw [hF.depth] at q; cases q
  cases r with
  | ok x w' =>
    cases x <;> simp only [Oper.uponIn] at h ⊢ <;>
      first
        | exact h
        | exact ⟨hn, hF.calls h.2⟩
        | (refine ⟨hn, fun c cs _ => ?_⟩; obtain ⟨v, w', r, s⟩ := h.2 c cs (room_wide _); exact ⟨v, w', r, hF.steps s⟩)
        | (refine ⟨hn, hF.fn _, fun c cs _ => ?_⟩; obtain ⟨e, w', r, s⟩ := h.2.2 c cs (room_wide _); exact ⟨e, w', r, hF.comes s⟩)
  | halt x w' => cases x <;> simp only [Oper.uponIn] at h ⊢ <;> exact h

/-- The condition under which a guarded operation runs. -/
def gateE (want : Bool) : Option (Bool × Value) → Option Bool
  | some (c, .bool y) => some (c && (y == want))
  | some (false, _) => some false
  | _ => none
def gate (all : Array Oper) (env : Env) (g : Nat × Bool) : Option Bool := gateE g.2 (((all[g.1]?).bind (·.dst)).bind (get env))

/-- Operations that always yield, whatever the world: their value. -/
def notV : Value → Option Value
  | .bool t => some (.bool (!t))
  | .tuple _ => some undef
  | _ => none
def pickV (a b : Value) : Value → Option Value
  | .bool t => some (if t = true then a else b)
  | .tuple _ => some undef
  | _ => none
def onBool : Option TypeDesc → Value → Option Value
  | some .bool, v => some v
  | _, _ => none
def convV : Option TypeDesc → Option TypeDesc → Value → Option Value
  | some (.int _), some (.int k), .int _ n => some (.int k (k.wrap n))
  | some (.int _), some (.int _), .tuple _ => some undef
  | _, _, _ => none
def binV (u : Option TypeDesc) : BinOp → Value → Value → Option Value
  | .eql, .int k a, .int k' b => if k = k' then some (.bool (decide (a = b))) else none
  | .neq, .int k a, .int k' b => if k = k' then some (.bool (!decide (a = b))) else none
  | .lss, .int k a, .int k' b => if k = k' then some (.bool (decide (a < b))) else none
  | .leq, .int k a, .int k' b => if k = k' then some (.bool (decide (a ≤ b))) else none
  | .gtr, .int k a, .int k' b => if k = k' then some (.bool (decide (a > b))) else none
  | .geq, .int k a, .int k' b => if k = k' then some (.bool (decide (a ≥ b))) else none
  | .add, .int k a, .int k' b => if k = k' then some (.int k (k.wrap (a + b))) else none
  | .sub, .int k a, .int k' b => if k = k' then some (.int k (k.wrap (a - b))) else none
  | .mul, .int k a, .int k' b => if k = k' then some (.int k (k.wrap (a * b))) else none
  | .eql, .bool a, .bool b => onBool u (.bool (a == b))
  | .neq, .bool a, .bool b => onBool u (.bool (a != b))
  | .eql, .string a, .string b => some (.bool (decide (a = b)))
  | .neq, .string a, .string b => some (.bool (!decide (a = b)))
  | .lss, .string a, .string b => some (.bool (Op.bytesLess a.toList b.toList))
  | .leq, .string a, .string b => some (.bool (!Op.bytesLess b.toList a.toList))
  | .gtr, .string a, .string b => some (.bool (Op.bytesLess b.toList a.toList))
  | .geq, .string a, .string b => some (.bool (!Op.bytesLess a.toList b.toList))
  | _, .tuple _, _ => some undef
  | _, _, .tuple _ => some undef
  | _, _, _ => none
theorem bl_irrefl : ∀ a : List UInt8, Op.bytesLess a a = false
  | [] => rfl
  | x :: a => by simp [Op.bytesLess, bl_irrefl a, UInt8.lt_irrefl]
theorem bl_flip : ∀ a b : List UInt8, Op.bytesLess a b = !(Op.bytesLess b a || a == b)
  | [], [] => by simp [Op.bytesLess]
  | [], _ :: _ => by simp [Op.bytesLess]
  | _ :: _, [] => by simp [Op.bytesLess]
  | x :: a, y :: b => by
    have ih := bl_flip a b
    simp only [Op.bytesLess]
    by_cases h : x = y
    · subst h; simp [ih]
    · have h' : ¬ y = x := fun e => h e.symm
      rcases Nat.lt_or_gt_of_ne (fun e => h (UInt8.toNat_inj.1 e)) with hl | hl
      · have h1 : x < y := UInt8.lt_iff_toNat_lt.2 hl
        have h2 : ¬ y < x := fun q => by have := UInt8.lt_iff_toNat_lt.1 q; omega
        simp [h, h', h1, h2]
      · have h1 : y < x := UInt8.lt_iff_toNat_lt.2 hl
        have h2 : ¬ x < y := fun q => by have := UInt8.lt_iff_toNat_lt.1 q; omega
        simp [h, h1, h2]
theorem bl_not (a b : List UInt8) : (Op.bytesLess a b || a == b) = !Op.bytesLess b a := by
  rw [bl_flip b a]
  by_cases h : a = b
  · subst h; simp
  · have h' : ¬ b = a := fun e => h e.symm
    have e1 : (a == b) = false := beq_eq_false_iff_ne.2 h
    have e2 : (b == a) = false := beq_eq_false_iff_ne.2 h'
    rw [e1, e2]; simp
theorem str_eq (a b : ByteArray) : (a.toList == b.toList) = decide (a = b) := by
  rw [ByteArray.toList_eq, ByteArray.toList_eq, Bool.eq_iff_iff, beq_iff_eq, decide_eq_true_iff]
  constructor
  · intro h
    exact ByteArray.ext (by simpa using h)
  · rintro rfl; rfl
def pureOp (P : Program) (env : Env) : Op → Option Value
  | .move x | .assign x => some (rho env x)
  | .pick c a b => pickV (rho env a) (rho env b) (rho env c)
  | .unOp .not _ x => notV (rho env x)
  | .convert src t x => convV (P.underlying src) (P.underlying t) (rho env x)
  | .binOp op t x y _ => binV (P.underlying t) op (rho env x) (rho env y)
  | _ => none
/-- What was not carried out is not looked at. -/
def okV (c : Bool) : Value → Prop
  | .tuple _ => c = false
  | _ => True
def okPick (env : Env) (c : Bool) (a b : Operand) : Value → Prop
  | .bool t => okE (c && t) (ent env a) ∧ okE (c && !t) (ent env b)
  | .tuple _ => c = false
  | _ => False
def okOp (env : Env) (c : Bool) : Op → Prop
  | .move x | .assign x => okE c (ent env x)
  | .unOp _ _ x | .convert _ _ x => okE c (ent env x) ∧ okV c (rho env x)
  | .pick x a b => okE c (ent env x) ∧ okPick env c a b (rho env x)
  | .binOp _ _ x y _ => okE c (ent env x) ∧ okE c (ent env y) ∧ okV c (rho env x) ∧ okV c (rho env y)
  | _ => False

def sel {α : Type} (x : Option α) (f : α → Prop) (g : Prop) : Prop :=
  match x with
  | some v => f v
  | none => g
theorem sel_some {α : Type} (v : α) (f : α → Prop) (g : Prop) : sel (some v) f g = f v := rfl
theorem sel_none {α : Type} (f : α → Prop) (g : Prop) : sel none f g = g := rfl
@[congr] theorem sel_congr {α : Type} {x x' : Option α} {f : α → Prop} {g : Prop} (h : x = x') : sel x f g = sel x' f g := by rw [h]
@[congr] theorem upon_congr {P : Program} {k : Value → World → Prop} {r r' : Result Next} (h : r = r') : upon P k r = upon P k r' := by rw [h]

def op1 (P : Program) (all : Array Oper) (o : Oper) (env : Env) (w : World) (k : Env → World → Prop) : Prop :=
  sel o.guard
    (fun g => sel (gate all env g)
      (fun c => sel (pureOp P env o.op)
        (fun v => okOp env c o.op ∧ k (put env o.dst c v) w)
        ((c = true → okAll env true o.op.operands.toList ∧ upon P (fun v w' => k (put env o.dst true v) w') ((execOp (rho env) o).run P w)) ∧
         (c = false → k (put env o.dst true undef) w)))
      False)
    (sel (pureOp P env o.op)
      (fun v => okOp env true o.op ∧ k (put env o.dst true v) w)
      (okAll env true o.op.operands.toList ∧ upon P (fun v w' => k (put env o.dst true v) w') ((execOp (rho env) o).run P w)))

def ops (P : Program) (all : Array Oper) (K : Env → World → Prop) : List Oper → Env → World → Prop
  | [], env, w => K env w
  | o :: rest, env, w => op1 P all o env w (ops P all K rest)

theorem run_pure {P : Program} {n : Nat} {env : Env} {a : Act} (h : Fits n env a) {o : Oper} {v : Value} (hp : pureOp P env o.op = some v) (hk : okOp env true o.op) (w : World) :
    (execOp a.eval o).run P w = .ok (.value v) w := by
  obtain ⟨dst, op, ty, pos, after, g⟩ := o
  cases op <;> first | (simp [pureOp] at hp; done) | simp only [pureOp] at hp
  case move x =>
    simp only [okOp] at hk
    cases hp
    simp [execOp, h.eval hk]
  case assign x =>
    simp only [okOp] at hk
    cases hp
    simp [execOp, h.eval hk]
  case pick c x y =>
    simp only [okOp] at hk
    obtain ⟨h1, h2⟩ := hk
    have e1 := h.eval h1
    generalize hv : rho env c = u at hp h2 e1
    cases u <;> first | (simp [pickV] at hp; done) | (simp [okPick] at h2; done) | simp only [pickV] at hp
    rename_i t
    cases hp
    simp only [okPick, Bool.true_and] at h2
    cases t with
    | true =>
      have := h.eval (okE_on h2.1 rfl)
      simp [execOp, ← e1, asBool, this]
    | false =>
      have := h.eval (okE_on h2.2 rfl)
      simp [execOp, ← e1, asBool, this]
  case binOp op t x y t' =>
    simp only [okOp] at hk
    obtain ⟨hk1, hk2, hk3, hk4⟩ := hk
    have e1 := h.eval hk1
    have e2 := h.eval hk2
    generalize rho env x = u at hp e1 hk3
    generalize rho env y = u' at hp e2 hk4
    generalize a.eval = ρ at e1 e2 ⊢
    unfold binV at hp
    split at hp <;> first | (simp at hp; done) | (simp [okV] at hk3; done) | (simp [okV] at hk4; done) | skip
    all_goals first
      | (cases hp; simp only [execOp, ← e1, ← e2, binOp, eqGuard, Op.stringOp, str_eq]; simp; done)
      | (cases hp; simp only [execOp, ← e1, ← e2, binOp, eqGuard, Op.stringOp, bl_not]; simp; done)
      | (split at hp <;> first | (simp at hp; done) | (rename_i hk; subst hk; cases hp; simp [execOp, ← e1, ← e2, go_sem]; done) | (rename_i hk; subst hk; cases hp; simp [execOp, ← e1, ← e2, go_sem]; rw [Bool.eq_iff_iff]; simp; done) | (rename_i hk; subst hk; cases hp; simp [execOp, ← e1, ← e2, go_sem, bne]; rw [Bool.eq_iff_iff]; simp; done) | (rename_i hk; subst hk; cases hp; simp [execOp, ← e1, ← e2, binOp, Op.intArith]; done))
      | (unfold onBool at hp; split at hp <;> first | (simp at hp; done) | (rename_i htb; cases hp; simp [execOp, ← e1, ← e2, go_sem, htb]; done) | (rename_i htb; cases hp; simp [execOp, ← e1, ← e2, go_sem, htb]; rename_i p q _; cases p <;> cases q <;> rfl) | (rename_i htb; cases hp; simp [execOp, ← e1, ← e2, go_sem, htb]; rename_i p q _ _; cases p <;> cases q <;> rfl))
  case convert src t x =>
    simp only [okOp] at hk
    obtain ⟨hk1, hk2⟩ := hk
    have e1 := h.eval hk1
    generalize rho env x = u at hp e1 hk2
    generalize a.eval = ρ at e1 ⊢
    unfold convV at hp
    split at hp <;> first | (simp at hp; done) | (simp [okV] at hk2; done) | skip
    rename_i h1 h2
    cases hp
    simp [execOp, ← e1, convert, run_underlying h1, run_underlying h2, Conv.intToInt]
  case unOp op t x =>
    cases op <;> first | (simp at hp; done) | simp only [] at hp
    simp only [okOp] at hk
    obtain ⟨hk1, hk2⟩ := hk
    have e1 := h.eval hk1
    generalize rho env x = u at hp e1 hk2
    cases u <;> first | (simp [notV] at hp; done) | (simp [okV] at hk2; done) | simp only [notV] at hp
    generalize a.eval = ρ at e1 ⊢
    cases hp
    simp [execOp, ← e1, go_sem]
end Go.Proofs.YtdfjfagljngciaaGreat.Rx
namespace Go.Proofs.YtdfjfagljngciaaGreat.Rx
open Go.RowKit
section
variable {P : Program} {n : Nat}

theorem gate_spec {all : Array Oper} {env : Env} {a : Act} {g : Nat × Bool} {c : Bool} (h : Fits n env a) (hg : gate all env g = some c) :
    (yielded all a.tmps g.1 == some g.2) = c := by
  unfold gate at hg
  unfold yielded
  generalize (all[g.1]?).bind (·.dst) = d at hg
  cases d with
  | none => simp [gateE] at hg
  | some s =>
    simp only [Option.bind_some] at hg ⊢
    generalize he : get env s = e at hg
    cases e with
    | none => simp [gateE] at hg
    | some p =>
      obtain ⟨c0, v⟩ := p
      have hv := h.has s c0 v he
      rw [Array.getD_eq_getD_getElem?] at hv
      generalize a.tmps[s]? = t at hv
      cases c0 with
      | true =>
        cases v <;> first | (simp [gateE] at hg; done) | simp only [gateE, Option.some.injEq] at hg
        rename_i y
        subst hg
        simp only [cv, if_true] at hv
        cases t with
        | none => simp [undef] at hv
        | some u => simp only [Option.getD_some] at hv; subst hv; simp
      | false =>
        have hc : c = false := by cases v <;> simp [gateE] at hg <;> first | exact hg | exact hg.symm
        subst hc
        simp only [cv, Bool.false_eq_true, if_false] at hv
        cases t with
        | none => simp
        | some u => simp only [Option.getD_some] at hv; subst hv; simp [undef]

theorem execOp_rho {env : Env} {a : Act} (h : Fits n env a) {o : Oper} (hs : ∀ cs b, o.op ≠ .select cs b) (hk : okAll env true o.op.operands.toList) :
    execOp (rho env) o = execOp a.eval o := by
  refine execOp_congr o hs fun x hx => ?_
  exact h.eval (okAll_mem hk x (by simpa using hx))

/-- No operation is a select; each writes a slot of the frame. -/
def opOk (n : Nat) (o : Oper) : Bool :=
  (match o.op with | .select .. => false | .defer _ => false | _ => true) && (match o.dst with | some d => decide (d < n) | none => true)
theorem opOk_defer {o : Oper} (h : opOk n o = true) : ∀ c, o.op ≠ .defer c := by
  intro c e
  simp [opOk, e] at h
theorem opOk_sel {o : Oper} (h : opOk n o = true) : ∀ cs b, o.op ≠ .select cs b := by
  intro cs b e
  simp [opOk, e] at h
theorem opOk_dst {o : Oper} (h : opOk n o = true) : ∀ d, o.dst = some d → d < n := by
  intro d e
  simp only [opOk, e, Bool.and_eq_true, decide_eq_true_eq] at h
  exact h.2

theorem okE_mono {c c' : Bool} {e : Option (Bool × Value)} (h : okE c e) (hc : c' = true → c = true) : okE c' e := by
  cases e with
  | none => exact h
  | some p => exact fun h' => h (hc h')
theorem okOp_true {env : Env} {c : Bool} {o : Op} (h : okOp env c o) (hc : c = true) : okOp env true o := by
  subst hc; exact h

theorem op1_sound {all : Array Oper} {o : Oper} {env : Env} {a : Act} {w : World} {k : Env → World → Prop}
    {K : Act → World → Prop} {Q : Exit → Act → World → Prop} (ho : opOk n o = true) (hf : Fits n env a) (h : op1 P all o env w k)
    (hk : ∀ env a w, Fits n env a → k env w → K a w) :
    if Region.wanted o (yielded all a.tmps) then wpX P o a w K Q else K (a.put o.dst undef) w := by
  have hsel := opOk_sel ho
  have hdst := opOk_dst ho
  have hrun : okAll env true o.op.operands.toList → upon P (fun v w' => k (put env o.dst true v) w') ((execOp (rho env) o).run P w) → wpX P o a w K Q := by
    intro h1 h2
    rw [execOp_rho hf hsel h1] at h2
    exact wp_of_upon h2 fun v w' hv => hk _ _ _ (by simpa [cv] using hf.put (c := true) (v := v) hdst) hv
  have hval : ∀ v, okOp env true o.op → pureOp P env o.op = some v → k (put env o.dst true v) w → wpX P o a w K Q := by
    intro v h1 h2 h3
    refine wp_of_upon (k := fun v' w' => v' = v ∧ w' = w) ?_ (fun v' w' hv => ?_)
    · rw [run_pure hf h2 h1]; exact ⟨rfl, rfl⟩
    · obtain ⟨rfl, rfl⟩ := hv
      exact hk _ _ _ (by simpa [cv] using hf.put (c := true) (v := v') hdst) h3
  unfold op1 at h
  cases hg : o.guard with
  | none =>
    rw [if_pos (by simp [Region.wanted, hg])]
    rw [hg, sel_none] at h
    cases hp : pureOp P env o.op with
    | none => rw [hp, sel_none] at h; exact hrun h.1 h.2
    | some v => rw [hp, sel_some] at h; exact hval v h.1 hp h.2
  | some g =>
    rw [hg, sel_some] at h
    cases hgt : gate all env g with
    | none => rw [hgt, sel_none] at h; exact h.elim
    | some c =>
      have hy := gate_spec hf hgt
      have hw : Region.wanted o (yielded all a.tmps) = c := by
        obtain ⟨j, want⟩ := g
        simp only [Region.wanted, hg]; exact hy
      rw [hgt, sel_some] at h
      cases hp : pureOp P env o.op with
      | none =>
        rw [hp, sel_none] at h
        cases c with
        | true => rw [if_pos hw]; exact hrun (h.1 rfl).1 (h.1 rfl).2
        | false =>
          rw [if_neg (by simp [hw])]
          exact hk _ _ _ (by simpa [cv] using hf.put (c := true) (v := undef) hdst) (h.2 rfl)
      | some v =>
        rw [hp, sel_some] at h
        cases c with
        | true => rw [if_pos hw]; exact hval v h.1 hp h.2
        | false =>
          rw [if_neg (by simp [hw])]
          exact hk _ _ _ (by simpa [cv] using hf.put (c := false) (v := v) hdst) h.2

/-- The operations of a region, one behind the other. -/
def wpListX (P : Program) (ops : Array Oper) (Q : Exit → Act → World → Prop) : List Oper → Act → World → Prop
  | [], a, w => Q .normal a w
  | o :: rest, a, w => if Region.wanted o (yielded ops a.tmps) then wpX P o a w (wpListX P ops Q rest) Q else wpListX P ops Q rest (a.put o.dst undef) w
theorem ops_sound {all : Array Oper} {K : Env → World → Prop} {Q : Exit → Act → World → Prop}
    (hK : ∀ env a w, Fits n env a → K env w → Q .normal a w) : ∀ (l : List Oper) (env : Env) (a : Act) (w : World), (∀ o ∈ l, opOk n o = true) → Fits n env a → ops P all K l env w → wpListX P all Q l a w
  | [], _, _, _, _, hf, h => hK _ _ _ hf h
  | o :: rest, env, a, w, ho, hf, h => by
    have := op1_sound (K := wpListX P all Q rest) (Q := Q) (ho o (by simp)) hf h (fun env' a' w' hf' h' => ops_sound hK rest env' a' w' (fun o h => ho o (by simp [h])) hf' h')
    unfold wpListX
    split
    · rename_i hw; rw [if_pos hw] at this; exact this
    · rename_i hw; rw [if_neg hw] at this; exact this
theorem wpListX_in {F : Fence} (hF : Free F) {m : Nat} {all : Array Oper} {Q : Exit → Act → World → Prop} : ∀ (l : List Oper) (a : Act) (w : World), (∀ o ∈ l, opOk n o = true) → wpListX P all Q l a w → wpListIn F m P all Q l a w
  | [], _, _, _, h => h
  | o :: rest, a, w, ho, h => by
    unfold wpListX at h
    unfold wpListIn
    split
    · rename_i hw; rw [if_pos hw] at h
      exact wpX_in hF (opOk_defer (ho o (by simp))) (wpX_mono (fun a w h => wpListX_in hF rest a w (fun o h => ho o (by simp [h])) h) h)
    · rename_i hw; rw [if_neg hw] at h
      exact ⟨fun f _ => hF.fn f, wpListX_in hF rest _ w (fun o h => ho o (by simp [h])) h⟩
end

structure Hint where
  carry : List Nat
  keep : List Nat
def look {α : Type} : List (Nat × α) → Nat → Option α
  | [], _ => none
  | (s, e) :: r, t => if s = t then some e else look r t

/-- The leftmost region of a piece of code. -/
def firstReg : Code → Option Nat
  | .region id _ _ => some id
  | .seq a b => match firstReg a with | some r => some r | none => firstReg b
  | .cond _ a b => match firstReg a with | some r => some r | none => firstReg b
  | .block _ b => firstReg b
  | .loop b => firstReg b
  | .scope b => firstReg b
  | _ => none

def consO : Option (Bool × Value) → Option (List Value) → Option (List Value)
  | some (true, v), some l => some (v :: l)
  | _, _ => none
def gets (env : Env) : List Nat → Option (List Value)
  | [] => some []
  | s :: r => consO (get env s) (gets env r)
def keep1 (s : Nat) : Option (Bool × Value) → Env → Env
  | some e, l => (s, e) :: l
  | none, l => l
def keepE (env : Env) : List Nat → Env
  | [] => keep1 1000003 (get env 1000003) []
  | s :: r => keep1 s (get env s) (keepE env r)
def puts : List Nat → List Value → Env → Env
  | s :: ss, v :: vs, env => (s, (true, v)) :: puts ss vs env
  | _, _, env => env

theorem get_keepE {env : Env} : ∀ {l : List Nat} {t : Nat} {e : Bool × Value}, get (keepE env l) t = some e → get env t = some e
  | [], t, e, h => by
    simp only [keepE] at h
    cases hs : get env 1000003 with
    | none => rw [hs] at h; simp [keep1, get] at h
    | some e' =>
      rw [hs] at h
      simp only [keep1, get] at h
      split at h
      · rename_i q; rw [← q, hs]; exact h
      · cases h
  | s :: r, t, e, h => by
    simp only [keepE] at h
    cases hs : get env s with
    | none => rw [hs] at h; exact get_keepE h
    | some e' =>
      rw [hs] at h
      simp only [keep1, get] at h
      split at h
      · rename_i q; subst q; rw [hs]; exact h
      · exact get_keepE h
theorem gets_get {env : Env} : ∀ {l : List Nat} {vs : List Value} {base : Env} {t : Nat} {e : Bool × Value}, gets env l = some vs → (∀ t e, get base t = some e → get env t = some e) →
    get (puts l vs base) t = some e → get env t = some e
  | [], vs, base, t, e, _, hb, h => by simp only [puts] at h; exact hb _ _ h
  | s :: r, vs, base, t, e, hg, hb, h => by
    simp only [gets] at hg
    cases hs : get env s with
    | none => rw [hs] at hg; simp [consO] at hg
    | some p =>
      obtain ⟨c, v⟩ := p
      rw [hs] at hg
      cases hr : gets env r with
      | none => rw [hr] at hg; cases c <;> simp [consO] at hg
      | some l =>
        rw [hr] at hg
        cases c <;> simp only [consO, Option.some.injEq] at hg
        · exact absurd hg (by simp)
        subst hg
        simp only [puts, get] at h
        split at h
        · rename_i q; subst q; rw [hs]; exact h
        · exact gets_get hr hb h

theorem none_keepE {env : Env} : ∀ {l : List Nat}, get (keepE env l) 1000003 = none → get env 1000003 = none
  | [], h => by
    simp only [keepE] at h
    cases hs : get env 1000003 with
    | none => rfl
    | some e' => rw [hs] at h; simp [keep1, get] at h
  | s :: r, h => by
    simp only [keepE] at h
    cases hs : get env s with
    | none => rw [hs] at h; exact none_keepE h
    | some e' =>
      rw [hs] at h
      simp only [keep1, get] at h
      split at h
      · cases h
      · exact none_keepE h
theorem none_puts : ∀ {l : List Nat} {vs : List Value} {base : Env}, get (puts l vs base) 1000003 = none → get base 1000003 = none
  | [], _, _, h => h
  | _ :: _, [], _, h => h
  | s :: r, v :: vs, base, h => by
    simp only [puts, get] at h
    split at h
    · cases h
    · exact none_puts h
theorem Fits.sub {n : Nat} {env env' : Env} {a : Act} (h : Fits n env a) (hs : ∀ t e, get env' t = some e → get env t = some e) (hn : get env' 1000003 = none → get env 1000003 = none) : Fits n env' a :=
  ⟨h.size, h.lim, by
    rw [h.defers]
    cases he : get env' 1000003 with
    | none => rw [hn he]
    | some e => rw [hs _ _ he], fun t c v hg => h.has t c v (hs t _ hg)⟩

def Lift (n : Nat) (Q : Exit → Env → World → Prop) : Exit → Act → World → Prop := fun e a w => ∃ env, Fits n env a ∧ Q e env w

def thenQ (k : Env → World → Prop) (Q : Exit → Env → World → Prop) : Exit → Env → World → Prop
  | .normal, env, w => k env w
  | e, env, w => Q e env w
def pickQ (b : Bool) (x y : Prop) : Prop := match b with | true => x | false => y
def blockQ (id : Nat) (Q : Exit → Env → World → Prop) : Exit → Env → World → Prop
  | .exit i, env, w => pickQ (i == id) (Q .normal env w) (Q (.exit i) env w)
  | e, env, w => Q e env w
def noGotoQ (Q : Exit → Env → World → Prop) : Exit → Env → World → Prop
  | .goto _, _, _ => False
  | e, env, w => Q e env w
def gotoQ (l : Nat) (J : Env → World → Prop) (Q : Exit → Env → World → Prop) : Exit → Env → World → Prop
  | .goto l', env, w => pickQ (l' == l) (J env w) False
  | e, env, w => Q e env w

def condF : Option (Bool × Value) → Prop → Prop → Prop
  | some (true, .bool b), x, y => (b = true → x) ∧ (b = false → y)
  | _, _, _ => False

/-- Where a loop's round, or a jump back, ends. -/
def Back {σ : Type} (carry keep : List Nat) (env0 : Env) (V : σ → List Value) (I : σ → World → Prop) (μ : σ → Nat) (m : Nat) : Env → World → Prop :=
  fun env w => ∃ g, gets env carry = some (V g) ∧ keepE env keep = env0 ∧ I g w ∧ μ g < m
def loopF (carry keep : List Nat) (body : (Env → World → Prop) → Env → World → Prop) (env : Env) (w : World) : Prop :=
  ∃ (σ : Type) (V : σ → List Value) (I : σ → World → Prop) (μ : σ → Nat) (g0 : σ) (env0 : Env), keepE env keep = env0 ∧ gets env carry = some (V g0) ∧ I g0 w ∧
    ∀ g w', I g w' → body (Back carry keep env0 V I μ (μ g)) (puts carry (V g) env0) w'
def scopeF (carry keep : List Nat) (first body : (Env → World → Prop) → Env → World → Prop) (env : Env) (w : World) : Prop :=
  ∃ (σ : Type) (V : σ → List Value) (I : σ → World → Prop) (μ : σ → Nat) (M : Nat) (env0 : Env),
    first (Back carry keep env0 V I μ M) env w ∧ ∀ g w', I g w' → body (Back carry keep env0 V I μ (μ g)) (puts carry (V g) env0) w'

theorem Fits.back {n : Nat} {env : Env} {a : Act} (h : Fits n env a) {carry keep : List Nat} {vs : List Value} {env0 : Env} (hg : gets env carry = some vs) (hk : keepE env keep = env0) :
    Fits n (puts carry vs env0) a := h.sub (fun _ _ he => gets_get hg (fun _ _ h => get_keepE (hk ▸ h)) he) (fun he => none_keepE (hk ▸ none_puts he))

end Go.Proofs.YtdfjfagljngciaaGreat.Rx
namespace Go.Proofs.YtdfjfagljngciaaGreat.Rx
open Go.RowKit
section
variable {P : Program} {F : Fence} {m : Nat} {a : Act} {w : World} {Q : Exit → Act → World → Prop}

theorem wp_loop_ghost (hF : Free F) {c : Code} {σ : Type} (J : σ → Act → World → Prop) (μ : σ → Nat) (g0 : σ) (h0 : J g0 a w)
    (round : ∀ g a w, J g a w → c.wpIn F m P (Exit.then (fun a' w' => ∃ g', J g' a' w' ∧ μ g' < μ g) Q) a w) : (Code.loop c).wpIn F m P Q a w := by
  intro b k cs hro hb hr
  have key : ∀ n g a w, μ g = n → J g a w →
      ∃ e a' w', Q e a' w' ∧ ArrivesIn (Machine.fenced P F) P (lone (b.atR a (.code c :: .inLoop c :: k)) cs w) b k cs e a' w' := by
    intro n
    induction n using Nat.strongRecOn with
    | _ n ih =>
      intro g a w hn hI
      obtain ⟨e, a₁, w₁, hq, harr⟩ := round g a w hI b (.inLoop c :: k) cs hro hb hr
      cases e with
      | normal =>
        obtain ⟨g', hI₁, hlt⟩ := hq
        obtain ⟨e₂, a₂, w₂, hq₂, harr₂⟩ := ih (μ g') (hn ▸ hlt) g' a₁ w₁ rfl hI₁
        exact ⟨e₂, a₂, w₂, hq₂, .of_steps (StepsIn.trans harr (.one (hF.same _ _) stepR_inLoop)) harr₂⟩
      | exit id => exact ⟨_, a₁, w₁, hq, .pass (x := .inLoop c) rfl (fun _ _ => .inl (by simp)) harr⟩
      | goto l => exact ⟨_, a₁, w₁, hq, .pass (x := .inLoop c) rfl (fun _ _ => .inl (by simp)) harr⟩
      | ret => exact ⟨_, a₁, w₁, hq, .pass (x := .inLoop c) rfl (fun _ _ => .inl (by simp)) harr⟩
      | panic ch => exact ⟨_, a₁, w₁, hq, .pass (x := .inLoop c) rfl (fun _ _ => .inl (by simp)) harr⟩
      | outgrown => exact ⟨_, a₁, w₁, hq, .pass (x := .inLoop c) rfl (fun _ _ => .inl (by simp)) harr⟩
  obtain ⟨e, a', w', hq, harr⟩ := key _ g0 a w rfl h0
  exact ⟨e, a', w', hq, .of_steps (.one (hF.same _ _) stepR_loop) harr⟩

theorem stepR_scope {b : Frame} {k : List Item} {cs : List Frame} {c : Code} : step P (lone (b.atR a (.code (.scope c) :: k)) cs w) = .next (lone (b.atR a (.code c :: .inScope c :: k)) cs w) :=
  step_lone_go (by simp [stepG, stepG.exec, Frame.atR])
theorem stepR_inScope {b : Frame} {k : List Item} {cs : List Frame} {c : Code} : step P (lone (b.atR a (.inScope c :: k)) cs w) = .next (lone (b.atR a k) cs w) :=
  step_lone_go (by simp [stepG, stepG.exec, Frame.atR])
theorem scope_exit {I : Machine → Prop} {mc : Machine} {b : Frame} {k : List Item} {cs : List Frame} {c : Code} {id : Nat} (h : ArrivesIn I P mc b (.inScope c :: k) cs (.exit id) a w) : ArrivesIn I P mc b k cs (.exit id) a w :=
  ⟨fun k' hk => h.1 k' (by simp [exitTo, hk]), fun hr hk => h.2 hr (by simp [exitTo, hk])⟩
theorem wpIn_scope_straight (hF : Free F) {c : Code} (h : c.wpIn F m P (Exit.noGoto Q) a w) : (Code.scope c).wpIn F m P Q a w := by
  intro b k cs hro hb hr
  obtain ⟨e, a₁, w₁, hq, harr⟩ := h b (.inScope c :: k) cs hro hb hr
  cases e with
  | normal => exact ⟨.normal, a₁, w₁, hq, .head (hF.same _ _) stepR_scope (StepsIn.trans harr (.one (hF.same _ _) stepR_inScope))⟩
  | exit id => exact ⟨.exit id, a₁, w₁, hq, .of_steps (.one (hF.same _ _) stepR_scope) (scope_exit harr)⟩
  | goto l => exact hq.elim
  | ret => exact ⟨_, a₁, w₁, hq, .of_steps (.one (hF.same _ _) stepR_scope) harr⟩
  | panic ch => exact ⟨_, a₁, w₁, hq, .of_steps (.one (hF.same _ _) stepR_scope) harr⟩
  | outgrown => exact ⟨_, a₁, w₁, hq, .of_steps (.one (hF.same _ _) stepR_scope) harr⟩
theorem wp_scope_ghost (hF : Free F) {c rest : Code} {σ : Type} (l : Nat) (J : σ → Act → World → Prop) (μ : σ → Nat) (hf : findLabel c l = some rest)
    (first : c.wpIn F m P (Exit.jump l (fun a w => ∃ g, J g a w) Q) a w)
    (pass : ∀ g a w, J g a w → rest.wpIn F m P (Exit.jump l (fun a' w' => ∃ g', J g' a' w' ∧ μ g' < μ g) Q) a w) : (Code.scope c).wpIn F m P Q a w := by
  intro b k cs hro hb hr
  have hg : gotoIn l (.inScope c :: k) = some (.code rest :: .inScope c :: k) := by simp [gotoIn, hf]
  have key : ∀ n g a w, μ g = n → J g a w → ∃ e a' w', Q e a' w' ∧ ArrivesIn (Machine.fenced P F) P (lone (b.atR a (.code rest :: .inScope c :: k)) cs w) b k cs e a' w' := by
    intro n
    induction n using Nat.strongRecOn with
    | _ n ih =>
      intro g a w hn hJ
      obtain ⟨e, a₁, w₁, hq, harr⟩ := pass g a w hJ b (.inScope c :: k) cs hro hb hr
      cases e with
      | normal => exact ⟨.normal, a₁, w₁, hq, StepsIn.trans harr (.one (hF.same _ _) stepR_inScope)⟩
      | exit id => exact ⟨.exit id, a₁, w₁, hq, scope_exit harr⟩
      | goto l' =>
        obtain ⟨rfl, g', hJ', hlt⟩ := hq
        obtain ⟨e₂, a₂, w₂, hq₂, harr₂⟩ := ih _ (by omega) g' a₁ w₁ rfl hJ'
        exact ⟨e₂, a₂, w₂, hq₂, .of_steps (harr.1 _ hg) harr₂⟩
      | ret => exact ⟨_, a₁, w₁, hq, harr⟩
      | panic ch => exact ⟨_, a₁, w₁, hq, harr⟩
      | outgrown => exact ⟨_, a₁, w₁, hq, harr⟩
  obtain ⟨e, a₁, w₁, hq, harr⟩ := first b (.inScope c :: k) cs hro hb hr
  cases e with
  | normal => exact ⟨.normal, a₁, w₁, hq, .head (hF.same _ _) stepR_scope (StepsIn.trans harr (.one (hF.same _ _) stepR_inScope))⟩
  | exit id => exact ⟨.exit id, a₁, w₁, hq, .of_steps (.one (hF.same _ _) stepR_scope) (scope_exit harr)⟩
  | goto l' =>
    obtain ⟨rfl, g, hJ'⟩ := hq
    obtain ⟨e₂, a₂, w₂, hq₂, harr₂⟩ := key _ g a₁ w₁ rfl hJ'
    exact ⟨e₂, a₂, w₂, hq₂, .of_steps (.head (hF.same _ _) stepR_scope (harr.1 _ hg)) harr₂⟩
  | ret => exact ⟨_, a₁, w₁, hq, .of_steps (.one (hF.same _ _) stepR_scope) harr⟩
  | panic ch => exact ⟨_, a₁, w₁, hq, .of_steps (.one (hF.same _ _) stepR_scope) harr⟩
  | outgrown => exact ⟨_, a₁, w₁, hq, .of_steps (.one (hF.same _ _) stepR_scope) harr⟩
end
end Go.Proofs.YtdfjfagljngciaaGreat.Rx
namespace Go.Proofs.YtdfjfagljngciaaGreat.Rx
open Go.RowKit

def isHole : Obj → Bool
  | .coro none => true
  | _ => false
/-- What w0 holds, w holds (blocks of w0 that are blanked out are not asked). -/
def Agree (w0 w : World) : Prop := ∀ (b : Nat) (o : Obj), w0.heap[b]? = some o → isHole o = false → w.heap[b]? = some o
theorem Agree.refl (w : World) : Agree w w := fun _ _ h _ => h
theorem Agree.trans {a b c : World} (h : Agree a b) (k : Agree b c) : Agree a c := fun i o hi ho => k i o (h i o hi ho) ho
theorem Agree.cell {w0 w : World} (h : Agree w0 w) {a : Addr} {v : Value} (hc : w0.cell? a = some v) : w.cell? a = some v := by
  unfold World.cell? at hc ⊢
  generalize hb : w0.heap[a.block]? = o at hc
  cases o with
  | none => simp at hc
  | some o =>
    cases o <;> first | (simp at hc; done) | skip
    rw [h _ _ hb rfl]; exact hc

theorem seen_agree {P : Program} {w0 w : World} (h : Agree w0 w) {at_ : Addr} {u : TypeId} {k : Addr} {m : Bool} {r : Array Value × TypeId × (Nat × Nat) × Nat × Value × List (Nat × Nat × List UInt8)}
    (hs : w0.seen P at_ u k m = .ok r) : w.seen P at_ u k m = .ok r := by
  generalize hb : w0.heap[at_.block]? = o
  have hno : (∀ c e f, o ≠ some (.cells c e f)) → False := by
    intro hne
    unfold World.seen at hs
    rw [hb] at hs
    cases o with
    | none =>
      simp only [bind, Except.bind] at hs
      repeat' (split at hs)
      all_goals first | (cases hs; done) | contradiction
    | some o =>
      cases o <;> first
        | (rename_i c e f; exact hne c e f rfl)
        | (simp only [bind, Except.bind] at hs
           repeat' (split at hs)
           all_goals first | (cases hs; done) | contradiction)
  have he : w.heap[at_.block]? = w0.heap[at_.block]? := by
    cases o with
    | none => exact (hno (by simp)).elim
    | some o =>
      cases o <;> first | (rw [hb]; exact h _ _ hb rfl) | exact (hno (fun c e f q => by cases q)).elim
  unfold World.seen at hs ⊢
  rw [he]; exact hs

theorem farLoad_agree {P : Program} {w0 w : World} (h : Agree w0 w) {a : Addr} {m : Bool} {v : Value} {l : List Addr} (hs : w0.farLoad P a m = .ok (v, l)) :
    w.cell? a = none ∧ w.farLoad P a m = .ok (v, l) := by
  unfold World.farLoad at hs ⊢
  generalize hb : w0.heap[a.block]? = o at hs
  cases o with
  | none => cases hs
  | some o =>
    cases o <;> first | (cases hs; done) | skip
    rename_i at_ u
    have hw := h _ _ hb rfl
    refine ⟨by simp [World.cell?, hw], ?_⟩
    rw [hw]
    simp only at hs ⊢
    unfold World.viewLoad at hs ⊢
    cases hse : w0.seen P at_ u a m with
    | error e => rw [hse] at hs; cases hs
    | ok r => rw [seen_agree h hse]; rw [hse] at hs; exact hs

/-- Reading alone: what it yields in w0 it yields wherever what w0 holds is held. -/
def Still (P : Program) {α : Type} (s : Sem α) : Prop := ∀ w0 v w1, s.run P w0 = .ok v w1 → w1 = w0 ∧ ∀ w, Agree w0 w → s.run P w = .ok v w

theorem Still.pure {P : Program} {α : Type} (x : α) : Still P (pure x : Sem α) := by
  intro w0 v w1 h
  simp at h ⊢
  obtain ⟨rfl, rfl⟩ := h
  simp
theorem Still.halt {P : Program} {α : Type} (x : Halt) : Still P (Sem.halt x : Sem α) := by
  intro w0 v w1 h; simp [Sem.run] at h
theorem Still.bind {P : Program} {α β : Type} {s : Sem α} {f : α → Sem β} (hs : Still P s) (hf : ∀ x, Still P (f x)) : Still P (s >>= f) := by
  intro w0 v w1 h
  rw [Sem.run_bind] at h
  cases hr : s.run P w0 with
  | halt x w' => rw [hr] at h; simp at h
  | ok x w' =>
    rw [hr] at h
    simp only [Result.andThen_ok] at h
    obtain ⟨rfl, h1⟩ := hs _ _ _ hr
    obtain ⟨rfl, h2⟩ := hf x _ _ _ h
    refine ⟨rfl, fun w hw => ?_⟩
    rw [Sem.run_bind, h1 w hw]
    exact h2 w hw
theorem Still.load {P : Program} (a : Addr) (m : Mode) : Still P (load a m) := by
  intro w0 v w1 h
  unfold Go.load at h ⊢
  simp only [Sem.run] at h
  cases hc : w0.cell? a with
  | some u =>
    rw [hc] at h
    simp only [Result.ok.injEq] at h
    obtain ⟨rfl, rfl⟩ := h
    refine ⟨rfl, fun w hw => ?_⟩
    simp only [Sem.run, hw.cell hc]
  | none =>
    rw [hc] at h
    simp only at h
    cases hf : w0.farLoad P a (m == .atomic) with
    | error x => rw [hf] at h; simp at h
    | ok p =>
      obtain ⟨u, l⟩ := p
      rw [hf] at h
      simp only [Result.ok.injEq] at h
      obtain ⟨rfl, rfl⟩ := h
      refine ⟨rfl, fun w hw => ?_⟩
      obtain ⟨e1, e2⟩ := farLoad_agree hw hf
      simp only [Sem.run, e1, e2]
theorem Still.program {P : Program} : Still P program := by
  intro w0 v w1 h
  simp [Go.program, Sem.run] at h ⊢
  obtain ⟨rfl, rfl⟩ := h
  simp
theorem Still.typeInfo {P : Program} (t : TypeId) : Still P (typeInfo t) := by
  unfold Go.typeInfo
  refine Still.bind Still.program fun p => ?_
  split
  · exact Still.pure _
  · exact Still.halt _
theorem Still.underlying {P : Program} (t : TypeId) : Still P (underlying t) := by
  unfold Go.underlying
  refine Still.bind Still.program fun p => ?_
  split
  · exact Still.pure _
  · exact Still.halt _
theorem Still.isAgg {P : Program} (t : TypeId) : Still P (isAgg t) := by
  unfold Go.isAgg
  refine Still.bind (Still.underlying t) fun p => ?_
  split <;> exact Still.pure _
theorem Still.loadCellsFrom {P : Program} (a : Addr) : ∀ (n i : Nat) (acc : Array Value), Still P (loadCellsFrom a i n acc)
  | 0, _, acc => Still.pure acc
  | n + 1, i, _ => Still.bind (Still.load _ _) fun _ => Still.loadCellsFrom a n (i + 1) _
theorem Still.loadAt {P : Program} (t : TypeId) (v : Value) : Still P (Instr.loadAt t v) := by
  unfold Instr.loadAt
  refine Still.bind ?_ fun a => ?_
  · unfold Instr.sureAddr
    split
    · exact Still.pure _
    · exact Still.halt _
  · unfold loadVar
    refine Still.bind (Still.isAgg t) fun b => ?_
    split
    · exact Still.bind (Still.bind (Still.typeInfo t) fun _ => Still.pure _) fun n => Still.bind (Still.loadCellsFrom _ _ _ _) fun _ => Still.pure _
    · exact Still.load _ _
end Go.Proofs.YtdfjfagljngciaaGreat.Rx
namespace Go.Proofs.YtdfjfagljngciaaGreat.Rx
open Go.RowKit

/-- In which order the operations of a region that draws are looked at: what can be taken first; whichever of several comes up. -/
inductive Plan where
  | done
  | take (i : Nat) (p : Plan)
  | act (i : Nat) (p : Plan)
  | fin (i : Nat) (p : Plan)
  | alt (i : Nat) (p q : Plan)

def isLoad : Op → Bool
  | .load _ _ => true
  | _ => false
/-- A value in the world w0, which stays. -/
def uponV (k : Value → Prop) : Result Next → Prop
  | .ok (.value v) _ => k v
  | _ => False
/-- The same value in every world. -/
def uponAll (k : Value → Prop) (r : World → Result Next) : Prop := ∃ v, (∀ w, r w = .ok (.value v) w) ∧ k v
theorem uponAll_val (k : Value → Prop) (v : Value) : uponAll k (fun w => .ok (.value v) w) = k v := by
  refine propext ⟨fun ⟨u, h, hk⟩ => ?_, fun h => ⟨v, fun _ => rfl, h⟩⟩
  have := h default
  simp at this
  rw [this]; exact hk
@[congr] theorem uponAll_congr {k : Value → Prop} {r r' : World → Result Next} (h : ∀ w, r w = r' w) : uponAll k r = uponAll k r' := by rw [funext h]
@[congr] theorem uponV_congr {k : Value → Prop} {r r' : Result Next} (h : r = r') : uponV k r = uponV k r' := by rw [h]
def ifB (b : Bool) (x y : Prop) : Prop := match b with | true => x | false => y
@[congr] theorem ifB_congr {b b' : Bool} {x y : Prop} (h : b = b') : ifB b x y = ifB b' x y := by rw [h]

def takeV (P : Program) (w0 : World) (o : Oper) (env : Env) (k : Value → Prop) : Prop :=
  okAll env true o.op.operands.toList ∧ ifB (isLoad o.op) (uponV k ((execOp (rho env) o).run P w0)) (uponAll k (fun w => (execOp (rho env) o).run P w))
def take1 (P : Program) (w0 : World) (all : Array Oper) (o : Oper) (env : Env) (k : Env → Prop) : Prop :=
  sel o.guard
    (fun g => sel (gate all env g)
      (fun c => sel (pureOp P env o.op)
        (fun v => okOp env c o.op ∧ k (put env o.dst c v))
        ((c = true → takeV P w0 o env (fun v => k (put env o.dst true v))) ∧ (c = false → k (put env o.dst true undef))))
      False)
    (sel (pureOp P env o.op)
      (fun v => okOp env true o.op ∧ k (put env o.dst true v))
      (takeV P w0 o env (fun v => k (put env o.dst true v))))

/-- The world, behind what is done, still holds what w0 holds. -/
def keepW (w0 : World) (k : Env → World → Prop) : Env → World → Prop := fun env w => Agree w0 w ∧ k env w

def planF (P : Program) (w0 : World) (all : Array Oper) (K : Env → World → Prop) : Plan → Env → World → Prop
  | .done, env, w => K env w
  | .take i p, env, w => sel all[i]? (fun o => take1 P w0 all o env (fun env' => planF P w0 all K p env' w)) False
  | .act i p, env, w => sel all[i]? (fun o => op1 P all o env w (keepW w0 (planF P w0 all K p))) False
  | .fin i p, env, w => sel all[i]? (fun o => op1 P all o env w (planF P w0 all K p)) False
  | .alt i p q, env, w => sel all[i]? (fun o => op1 P all o env w (keepW w0 (planF P w0 all K p))) False ∧ planF P w0 all K q env w

def Plan.firsts : Plan → List Nat
  | .act i _ => [i]
  | .fin i _ => [i]
  | .alt i _ q => i :: q.firsts
  | _ => []
/-- The operations behind which nothing is taken any more, in whatever order. -/
def Plan.fins : Plan → List Nat
  | .done => []
  | .take _ p => p.fins
  | .act _ p => p.fins
  | .fin i p => i :: p.fins
  | .alt _ p q => p.fins ++ q.fins
def Plan.onlyFin : Plan → Bool
  | .done => true
  | .fin _ p => p.onlyFin
  | _ => false
def reachB (ops : Array Oper) : Nat → Nat → Nat → Bool
  | 0, _, _ => false
  | f + 1, j, i => match ops[j]? with
    | some o => o.after.any (fun e => Region.binds .any e && e.on == i) || o.after.any (fun e => Region.binds .any e && reachB ops f e.on i)
    | none => false
/-- Is it a load, all that is behind without keeping has to wait for it. -/
def waitsB (ops : Array Oper) (F : List Nat) (i : Nat) : Bool := match ops[i]? with
  | some o => !isLoad o.op || F.all (fun j => reachB ops 5 j i)
  | none => false
mutual
def planOk (ops : Array Oper) (F : List Nat) : (fuel : Nat) → Array Bool → Plan → Bool
  | _, listed, .done => (Region.ready .any ops listed).isEmpty
  | fuel + 1, listed, .take i p => waitsB ops F i && Region.free .any ops listed i && (Region.ready .any ops listed).contains i && planOk ops F fuel (listed.setIfInBounds i true) p
  | fuel + 1, listed, .act i p => (Region.ready .any ops listed == [i]) && planOk ops F fuel (listed.setIfInBounds i true) p
  | fuel + 1, listed, .fin i p => p.onlyFin && F.contains i && (Region.ready .any ops listed == [i]) && planOk ops F fuel (listed.setIfInBounds i true) p
  | fuel + 1, listed, .alt i p q => (Region.ready .any ops listed == i :: q.firsts) && planOk ops F fuel (listed.setIfInBounds i true) p && altOk ops F fuel listed q
  | 0, _, _ => false
def altOk (ops : Array Oper) (F : List Nat) : (fuel : Nat) → Array Bool → Plan → Bool
  | fuel, listed, .act i p => planOk ops F fuel (listed.setIfInBounds i true) p
  | fuel, listed, .fin i p => p.onlyFin && F.contains i && planOk ops F fuel (listed.setIfInBounds i true) p
  | fuel, listed, .alt i p q => planOk ops F fuel (listed.setIfInBounds i true) p && altOk ops F fuel listed q
  | _, _, _ => false
end

def wpOpX (P : Program) (ops : Array Oper) (Q : Exit → Act → World → Prop) (i : Nat) (K : Act → World → Prop) (a : Act) (w : World) : Prop :=
  match ops[i]? with
  | none => K a w
  | some o => if Region.wanted o (yielded ops a.tmps) then wpX P o a w K Q else K (a.put o.dst undef) w
section
variable {P : Program} {ops : Array Oper} {Q : Exit → Act → World → Prop} {S : World → Prop}
theorem wpOpX_mono {i : Nat} {a : Act} {w : World} {K K' : Act → World → Prop} (h : ∀ a w, K a w → K' a w) (hh : wpOpX P ops Q i K a w) : wpOpX P ops Q i K' a w := by
  unfold wpOpX at *
  split
  · exact h _ _ (by simpa [*] using hh)
  · rename_i o ho
    simp only [ho] at hh
    split
    · rename_i hw; simp only [hw, if_true] at hh; exact wpX_mono h hh
    · rename_i hw; simp only [hw] at hh; exact h _ _ hh
theorem wpOpX_in {F : Fence} (hF : Free F) {m n : Nat} (hop : ∀ o ∈ ops.toList, opOk n o = true) {i : Nat} {a : Act} {w : World} {K : Act → World → Prop} (hh : wpOpX P ops Q i K a w) : wpOpIn F m P ops Q i K a w := by
  unfold wpOpX at hh
  unfold wpOpIn
  split
  · simpa [*] using hh
  · rename_i o ho
    simp only [ho] at hh
    split
    · rename_i hw; simp only [hw, if_true] at hh
      exact wpX_in hF (opOk_defer (hop o (by simpa using Array.mem_of_getElem? ho))) hh
    · rename_i hw; simp only [hw] at hh; exact ⟨fun f _ => hF.fn f, hh⟩
theorem yieldsIf_opX {i : Nat} {o : Oper} {v : Value} {a : Act} (hi : ops[i]? = some o) (hy : YieldsIf P ops S o v a)
    {K : Act → World → Prop} {w : World} (hS : S w) (h : K (a.put o.dst v) w) : wpOpX P ops Q i K a w := by
  unfold wpOpX
  simp only [hi]
  rcases hy with ⟨hw, hv⟩ | ⟨hw, rfl⟩
  · simp only [hw, if_true, wpX, hv w hS, Oper.uponIn]; exact h
  · simp only [hw, Bool.false_eq_true, if_false]; exact h
theorem wpOpX_putIf {j : Nat} {oi oj : Oper} {v : Value} (hj : ops[j]? = some oj) (hap : oi.apart ops oj = true)
    (hsi : ∀ cs b, oi.op ≠ .select cs b) (hsj : ∀ cs b, oj.op ≠ .select cs b)
    (hQ : ∀ c a w, Q (.panic c) (a.put oi.dst v) w → Q (.panic c) a w) {K : Act → World → Prop} {a : Act} {w : World}
    (hy : YieldsIf P ops S oi v a) (h : wpOpX P ops Q j K (a.put oi.dst v) w) :
    wpOpX P ops Q j (fun a' w' => YieldsIf P ops S oi v a' ∧ K (a'.put oi.dst v) w') a w := by
  obtain ⟨h1, h2, h3⟩ := Oper.apart_spec hap
  have keep : ∀ (a : Act), YieldsIf P ops S oi v a → ∀ u, YieldsIf P ops S oi v (a.put oj.dst u) := fun a hy u =>
    hy.of_same (execOp_put oi hsi a oj.dst u h3) (wanted_put oi a oj.dst u h3)
  have keepD : ∀ d, YieldsIf P ops S oi v { a with defers := d :: a.defers } := fun d => hy.of_same rfl rfl
  unfold wpOpX at *
  simp only [hj] at *
  rw [wanted_put oj a oi.dst v h1] at h
  split
  · rename_i hw
    simp only [hw, if_true] at h
    unfold wpX at *
    rw [execOp_put oj hsj a oi.dst v h1] at h
    generalize (execOp a.eval oj).run P w = r at *
    cases r with
    | ok x w' =>
      cases x <;> simp only [Oper.uponIn] at h ⊢
      case value u => exact ⟨keep a hy u, by rw [← Act.put_comm a v u h2]; exact h⟩
      case skip => exact ⟨keep a hy _, by rw [← Act.put_comm a v undef h2]; exact h⟩
      case defer d =>
        refine ⟨keep _ (keepD d) _, ?_⟩
        rw [← Act.put_comm _ v undef h2, ← Act.put_defers]
        exact h
      case enter f args =>
        refine ⟨h.1, CallsIn.mono h.2 fun e w'' he => ?_⟩
        cases e with
        | returned u => exact ⟨keep a hy u, by rw [← Act.put_comm a v u h2]; exact he⟩
        | panicked c => exact hQ _ _ _ he
        | outgrown => exact he
      case row row args => exact ⟨h.1, RowsIn.mono h.2 fun u w'' he => ⟨keep a hy u, by rw [← Act.put_comm a v u h2]; exact he⟩⟩
      case round l f tmps assign body =>
        refine ⟨h.1, RoundIn.mono h.2 fun e w'' he => ?_⟩
        cases e with
        | returned u => exact ⟨keep a hy u, by rw [← Act.put_comm a v u h2]; exact he⟩
        | panicked c => exact hQ _ _ _ he
        | outgrown => exact he
    | halt x w' =>
      cases x <;> simp only [Oper.uponIn] at h ⊢
      case panic u => exact hQ _ _ _ h
  · rename_i hw
    simp only [hw] at h
    exact ⟨keep a hy _, by rw [← Act.put_comm a v undef h2]; exact h⟩
end
/-- Whatever order is picked from here on; S holds behind every operation that is carried out, but for those of F. -/
def wpAnyF (P : Program) (ops : Array Oper) (Q : Exit → Act → World → Prop) (S : World → Prop) (F : List Nat) : Nat → Array Bool → Act → World → Prop
  | 0, listed, a, w => Region.ready .any ops listed = [] ∧ Q .normal a w
  | fuel + 1, listed, a, w =>
    (Region.ready .any ops listed = [] → Q .normal a w) ∧
    ∀ i ∈ Region.ready .any ops listed, wpOpX P ops Q i (fun a' w' => (i ∈ F ∨ (S w → S w')) ∧ wpAnyF P ops Q S F fuel (listed.setIfInBounds i true) a' w') a w
section
variable {P : Program} {ops : Array Oper} {Q : Exit → Act → World → Prop} {S : World → Prop} {F : List Nat}
theorem wpAny_of_F {G : Fence} (hG : Free G) {m n : Nat} (hop : ∀ o ∈ ops.toList, opOk n o = true) : ∀ (fuel : Nat) (listed : Array Bool) (a : Act) (w : World), wpAnyF P ops Q S F fuel listed a w → wpAnyIn G m P .any ops Q fuel listed a w
  | 0, _, _, _, h => h
  | fuel + 1, _, _, _, h => ⟨h.1, fun i hi => wpOpX_in hG hop (wpOpX_mono (fun a' w' h' => wpAny_of_F hG hop fuel _ a' w' h'.2) (h.2 i hi))⟩
theorem listed_both {listed : Array Bool} {i : Nat} (h : listed.getD i true = false) : listed.getD i false = false := by
  rcases Nat.lt_or_ge i listed.size with h' | h'
  · simp [h'] at h ⊢; exact h
  · simp [Array.getElem?_eq_none h'] at h
def Closed (ops : Array Oper) (listed : Array Bool) : Prop := ∀ k ok, ops[k]? = some ok → listed.getD k false = true → ∀ e ∈ ok.after, Region.binds .any e = true → listed.getD e.on false = true
theorem Closed.start (ops : Array Oper) (n : Nat) : Closed ops (Array.replicate n false) := by
  intro k ok _ hl
  have : (Array.replicate n false).getD k false = false := by
    rcases Nat.lt_or_ge k n with h | h
    · simp [h]
    · simp [h]
  rw [this] at hl; cases hl
theorem Closed.set {listed : Array Bool} {i : Nat} (h : Closed ops listed) (hi : i ∈ Region.ready .any ops listed) : Closed ops (listed.setIfInBounds i true) := by
  obtain ⟨_, oi, hoi, hall⟩ := mem_ready.1 hi
  intro k ok hk hl e he hb
  refine getD_set_true ?_
  by_cases hik : i = k
  · subst hik
    have : ok = oi := Option.some.inj (hk.symm.trans hoi)
    subst this
    exact hall e he hb
  · rw [getD_set_ne false hik] at hl
    exact h k ok hk hl e he hb
theorem reach_spec {listed : Array Bool} (hc : Closed ops listed) : ∀ (f j i : Nat), reachB ops f j i = true → (∀ oj, ops[j]? = some oj → ∀ e ∈ oj.after, Region.binds .any e = true → listed.getD e.on false = true) → listed.getD i false = true
  | 0, _, _, h, _ => by simp [reachB] at h
  | f + 1, j, i, h, hp => by
    simp only [reachB] at h
    cases hj : ops[j]? with
    | none => rw [hj] at h; simp at h
    | some o =>
      rw [hj] at h
      simp only [Bool.or_eq_true] at h
      rcases h with h | h
      · obtain ⟨e, he, hb⟩ := Array.any_eq_true'.1 h
        simp only [Bool.and_eq_true, beq_iff_eq] at hb
        have := hp o hj e he hb.1
        rwa [hb.2] at this
      · obtain ⟨e, he, hb⟩ := Array.any_eq_true'.1 h
        simp only [Bool.and_eq_true] at hb
        exact reach_spec hc f e.on i hb.2 (fun ok hk => hc e.on ok hk (hp o hj e he hb.1))
theorem wpAnyF_firstL {i : Nat} {oi : Oper} {v : Value} (hi : ops[i]? = some oi) (hsel : ∀ (j : Nat) (o : Oper) cs b, ops[j]? = some o → o.op ≠ .select cs b)
    (hQ : ∀ c a w, Q (.panic c) (a.put oi.dst v) w → Q (.panic c) a w) (hF : ∀ j ∈ F, reachB ops 5 j i = true) :
    ∀ (fuel : Nat) (listed : Array Bool) (a : Act) (w : World),
      (∀ j oj, ops[j]? = some oj → j ≠ i → listed.getD j true = false → (∀ e ∈ oj.after, Region.binds .any e = true → e.on ≠ i) → oi.apart ops oj = true) →
      Closed ops listed → i ∈ Region.ready .any ops listed → YieldsIf P ops S oi v a → S w →
      wpAnyF P ops Q S F fuel (listed.setIfInBounds i true) (a.put oi.dst v) w → wpAnyF P ops Q S F (fuel + 1) listed a w := by
  intro fuel
  induction fuel with
  | zero =>
    intro listed a w _ _ hr hy hS H
    refine ⟨fun h => (by rw [h] at hr; cases hr), fun j hj => ?_⟩
    by_cases hji : j = i
    · subst hji; exact yieldsIf_opX hi hy hS ⟨.inr id, H⟩
    · have := ready_mono hj hji
      rw [H.1] at this
      cases this
  | succ fuel ih =>
    intro listed a w hfree hcl hr hy hS H
    refine ⟨fun h => (by rw [h] at hr; cases hr), fun j hj => ?_⟩
    by_cases hji : j = i
    · subst hji; exact yieldsIf_opX hi hy hS ⟨.inr id, H⟩
    · have h1 := H.2 j (ready_mono hj hji)
      obtain ⟨hjun, oj, hoj, hall⟩ := mem_ready.1 hj
      have hiun : listed.getD i false = false := listed_both (mem_ready.1 hr).1
      have hnot : ∀ e ∈ oj.after, Region.binds .any e = true → e.on ≠ i := fun e he hb heq => by
        have h1 := hall e he hb
        rw [heq, hiun] at h1; cases h1
      have hnF : j ∉ F := fun hj' => by
        have := reach_spec hcl 5 j i (hF j hj') (fun ok hk => by have : ok = oj := Option.some.inj (hk.symm.trans hoj); subst this; exact hall)
        rw [hiun] at this; cases this
      have h2 := wpOpX_putIf hoj (hfree j oj hoj hji hjun hnot) (fun cs b => hsel i oi cs b hi) (fun cs b => hsel j oj cs b hoj) hQ hy h1
      have hfree' : ∀ k ok, ops[k]? = some ok → k ≠ i → (listed.setIfInBounds j true).getD k true = false →
          (∀ e ∈ ok.after, Region.binds .any e = true → e.on ≠ i) → oi.apart ops ok = true := fun k ok hk hki hun hno => by
        refine hfree k ok hk hki ?_ hno
        by_cases hjk : j = k
        · subst hjk; exact hjun
        · rw [getD_set_ne true hjk] at hun; exact hun
      refine wpOpX_mono (fun a' w' h3 => ?_) h2
      have hS' : S w' := (h3.2.1.resolve_left hnF) hS
      refine ⟨.inr fun _ => hS', ih (listed.setIfInBounds j true) a' w' hfree' (hcl.set hj) (ready_mono hr (Ne.symm hji)) h3.1 hS' ?_⟩
      rw [Array.setIfInBounds_comm _ _ hji]
      exact h3.2.2
theorem yields_of {o : Oper} {v : Value} {a : Act} (h : YieldsIf P ops (fun _ => True) o v a) : Yields P ops o v a := h.imp (fun ⟨hw, hv⟩ => ⟨hw, fun w => hv w trivial⟩) id
theorem wpAnyF_firstY {i : Nat} {oi : Oper} {v : Value} (hi : ops[i]? = some oi) (hsel : ∀ (j : Nat) (o : Oper) cs b, ops[j]? = some o → o.op ≠ .select cs b)
    (hQ : ∀ c a w, Q (.panic c) (a.put oi.dst v) w → Q (.panic c) a w) :
    ∀ (fuel : Nat) (listed : Array Bool) (a : Act) (w : World),
      (∀ j oj, ops[j]? = some oj → j ≠ i → listed.getD j true = false → (∀ e ∈ oj.after, Region.binds .any e = true → e.on ≠ i) → oi.apart ops oj = true) →
      Closed ops listed → i ∈ Region.ready .any ops listed → Yields P ops oi v a →
      wpAnyF P ops Q S F fuel (listed.setIfInBounds i true) (a.put oi.dst v) w → wpAnyF P ops Q S F (fuel + 1) listed a w := by
  intro fuel
  induction fuel with
  | zero =>
    intro listed a w _ _ hr hy  H
    refine ⟨fun h => (by rw [h] at hr; cases hr), fun j hj => ?_⟩
    by_cases hji : j = i
    · subst hji; exact yieldsIf_opX (S := fun _ => True) hi hy.yieldsIf trivial ⟨.inr id, H⟩
    · have := ready_mono hj hji
      rw [H.1] at this
      cases this
  | succ fuel ih =>
    intro listed a w hfree hcl hr hy  H
    refine ⟨fun h => (by rw [h] at hr; cases hr), fun j hj => ?_⟩
    by_cases hji : j = i
    · subst hji; exact yieldsIf_opX (S := fun _ => True) hi hy.yieldsIf trivial ⟨.inr id, H⟩
    · have h1 := H.2 j (ready_mono hj hji)
      obtain ⟨hjun, oj, hoj, hall⟩ := mem_ready.1 hj
      have hiun : listed.getD i false = false := listed_both (mem_ready.1 hr).1
      have hnot : ∀ e ∈ oj.after, Region.binds .any e = true → e.on ≠ i := fun e he hb heq => by
        have h1 := hall e he hb
        rw [heq, hiun] at h1; cases h1
      have h2 := wpOpX_putIf (S := fun _ => True) hoj (hfree j oj hoj hji hjun hnot) (fun cs b => hsel i oi cs b hi) (fun cs b => hsel j oj cs b hoj) hQ hy.yieldsIf h1
      have hfree' : ∀ k ok, ops[k]? = some ok → k ≠ i → (listed.setIfInBounds j true).getD k true = false →
          (∀ e ∈ ok.after, Region.binds .any e = true → e.on ≠ i) → oi.apart ops ok = true := fun k ok hk hki hun hno => by
        refine hfree k ok hk hki ?_ hno
        by_cases hjk : j = k
        · subst hjk; exact hjun
        · rw [getD_set_ne true hjk] at hun; exact hun
      refine wpOpX_mono (fun a' w' h3 => ?_) h2
      refine ⟨h3.2.1, ih (listed.setIfInBounds j true) a' w' hfree' (hcl.set hj) (ready_mono hr (Ne.symm hji)) (yields_of h3.1) ?_⟩
      rw [Array.setIfInBounds_comm _ _ hji]
      exact h3.2.2
theorem wpAnyF_all {rs : List Nat} {fuel : Nat} {listed : Array Bool} {a : Act} {w : World} (hr : Region.ready .any ops listed = rs) (hne : rs ≠ [])
    (h : ∀ i ∈ rs, wpOpX P ops Q i (fun a' w' => (i ∈ F ∨ (S w → S w')) ∧ wpAnyF P ops Q S F fuel (listed.setIfInBounds i true) a' w') a w) : wpAnyF P ops Q S F (fuel + 1) listed a w :=
  ⟨fun h0 => absurd (hr ▸ h0) hne, hr ▸ h⟩
theorem wpAnyF_done {listed : Array Bool} {a : Act} {w : World} (hr : Region.ready .any ops listed = []) (h : Q .normal a w) :
    ∀ fuel, wpAnyF P ops Q S F fuel listed a w
  | 0 => ⟨hr, h⟩
  | _ + 1 => ⟨fun _ => h, by rw [hr]; simp⟩
theorem wp_region_F {G : Fence} (hG : Free G) {m n : Nat} (hop : ∀ o ∈ ops.toList, opOk n o = true) {id : Nat} {a : Act} {w : World} (hm : P.follows .mixedOrders = true)
    (h : wpAnyF P ops Q S F ops.size (Array.replicate ops.size false) a { w with drawn := w.drawn + 1 }) : (Code.region id ops true).wpIn G m P Q a w :=
  wpIn_region_any hm (wpAny_of_F hG hop _ _ _ _ h)
end

section
variable {P : Program} {n : Nat} {ops : Array Oper} {w0 : World} {F : List Nat}

theorem take1_sound {Q : Exit → Act → World → Prop} {i : Nat} {o : Oper} {p : Array Bool} {fuel : Nat} {env : Env} {a : Act} {w : World} {k : Env → Prop}
    (hi : ops[i]? = some o) (hs : Region.noSelect ops = true) (hF : waitsB ops F i = true) (hfr : Region.free .any ops p i = true) (hr : (Region.ready .any ops p).contains i = true) (hcl : Closed ops p)
    (hQ : ∀ c a v w, Q (.panic c) (a.put o.dst v) w → Q (.panic c) a w) (hS : Agree w0 w) (ho : opOk n o = true) (hf : Fits n env a)
    (h : take1 P w0 ops o env k) (hk : ∀ env' a', Fits n env' a' → k env' → wpAnyF P ops Q (Agree w0) F fuel (p.setIfInBounds i true) a' w) :
    wpAnyF P ops Q (Agree w0) F (fuel + 1) p a w := by
  have hsel := opOk_sel ho
  have hdst := opOk_dst ho
  have hr' : i ∈ Region.ready .any ops p := by simpa using hr
  have goY : ∀ v, Yields P ops o v a → wpAnyF P ops Q (Agree w0) F fuel (p.setIfInBounds i true) (a.put o.dst v) w → wpAnyF P ops Q (Agree w0) F (fuel + 1) p a w :=
    fun v hy h' => wpAnyF_firstY hi (Region.noSelect_spec hs) (fun c a w => hQ c a v w) fuel p a w (Region.free_spec hi hfr) hcl hr' hy h'
  have hval : ∀ v, Region.wanted o (yielded ops a.tmps) = true → okOp env true o.op → pureOp P env o.op = some v → k (put env o.dst true v) → wpAnyF P ops Q (Agree w0) F (fuel + 1) p a w := by
    intro v hw h1 h2 h3
    refine goY v (.inl ⟨hw, fun w' => run_pure hf h2 h1 w'⟩) (hk _ _ (by simpa [cv] using hf.put (c := true) (v := v) hdst) h3)
  have htk : Region.wanted o (yielded ops a.tmps) = true → takeV P w0 o env (fun v => k (put env o.dst true v)) → wpAnyF P ops Q (Agree w0) F (fuel + 1) p a w := by
    intro hw ⟨h1, h2⟩
    rw [execOp_rho hf hsel h1] at h2
    cases hl : isLoad o.op with
    | true =>
      rw [hl] at h2
      simp only [ifB] at h2
      have hF' : ∀ j ∈ F, reachB ops 5 j i = true := by
        simp only [waitsB, hi, hl, Bool.not_true, Bool.false_or, List.all_eq_true] at hF
        exact hF
      have goL : ∀ v, YieldsIf P ops (Agree w0) o v a → wpAnyF P ops Q (Agree w0) F fuel (p.setIfInBounds i true) (a.put o.dst v) w → wpAnyF P ops Q (Agree w0) F (fuel + 1) p a w :=
        fun v hy h' => wpAnyF_firstL hi (Region.noSelect_spec hs) (fun c a w => hQ c a v w) hF' fuel p a w (Region.free_spec hi hfr) hcl hr' hy hS h'
      obtain ⟨dst, op, ty, pos, after, g⟩ := o
      cases op <;> first | (simp [isLoad] at hl; done) | skip
      rename_i t x
      have hst := Still.loadAt (P := P) t (a.eval x)
      simp only [execOp, Sem.run_bind] at h2
      cases hrun : (Instr.loadAt t (a.eval x)).run P w0 with
      | halt x w' => rw [hrun] at h2; simp [uponV] at h2
      | ok v w' =>
        rw [hrun] at h2
        simp [uponV] at h2
        refine goL v (.inl ⟨hw, fun w2 hw2 => ?_⟩) (hk _ _ (by simpa [cv] using hf.put (c := true) (v := v) hdst) h2)
        simp [execOp, (hst _ _ _ hrun).2 w2 hw2]
    | false =>
      rw [hl] at h2
      simp only [ifB] at h2
      obtain ⟨v, hv, hkv⟩ := h2
      exact goY v (.inl ⟨hw, fun w2 => hv w2⟩) (hk _ _ (by simpa [cv] using hf.put (c := true) (v := v) hdst) hkv)
  unfold take1 at h
  cases hg : o.guard with
  | none =>
    have hw : Region.wanted o (yielded ops a.tmps) = true := by simp [Region.wanted, hg]
    rw [hg, sel_none] at h
    cases hp : pureOp P env o.op with
    | none => rw [hp, sel_none] at h; exact htk hw h
    | some v => rw [hp, sel_some] at h; exact hval v hw h.1 hp h.2
  | some g =>
    rw [hg, sel_some] at h
    cases hgt : gate ops env g with
    | none => rw [hgt, sel_none] at h; exact h.elim
    | some c =>
      have hy := gate_spec hf hgt
      have hw : Region.wanted o (yielded ops a.tmps) = c := by
        obtain ⟨j, want⟩ := g
        simp only [Region.wanted, hg]; exact hy
      rw [hgt, sel_some] at h
      cases hp : pureOp P env o.op with
      | none =>
        rw [hp, sel_none] at h
        cases c with
        | true => exact htk hw (h.1 rfl)
        | false => exact goY undef (.inr ⟨hw, rfl⟩) (hk _ _ (by simpa [cv] using hf.put (c := true) (v := undef) hdst) (h.2 rfl))
      | some v =>
        rw [hp, sel_some] at h
        cases c with
        | true => exact hval v hw h.1 hp h.2
        | false => exact goY undef (.inr ⟨hw, rfl⟩) (hk _ _ (by simpa [cv] using hf.put (c := false) (v := v) hdst) h.2)

theorem act1_sound {Q : Exit → Act → World → Prop} {i : Nat} {env : Env} {a : Act} {w : World} {k : Env → World → Prop} {K : Act → World → Prop}
    (hop : ∀ o ∈ ops.toList, opOk n o = true) (hf : Fits n env a) (h : sel ops[i]? (fun o => op1 P ops o env w k) False) (hk : ∀ env a w, Fits n env a → k env w → K a w) : wpOpX P ops Q i K a w := by
  cases hi : ops[i]? with
  | none => rw [hi, sel_none] at h; exact h.elim
  | some o =>
    rw [hi, sel_some] at h
    have ho : opOk n o = true := hop o (by simpa using Array.mem_of_getElem? hi)
    have := op1_sound (K := K) (Q := Q) ho hf h hk
    unfold wpOpX
    simp only [hi]
    split
    · rename_i hw; rw [if_pos hw] at this; exact this
    · rename_i hw; rw [if_neg hw] at this; exact this

theorem fin_sound {Q : Exit → Act → World → Prop} {K : Env → World → Prop} (hop : ∀ o ∈ ops.toList, opOk n o = true) (hK : ∀ env a w, Fits n env a → K env w → Q .normal a w) :
    ∀ (pl : Plan) (fuel : Nat) (listed : Array Bool) (env : Env) (a : Act) (w : World), pl.onlyFin = true → planOk ops F fuel listed pl = true → Fits n env a → planF P w0 ops K pl env w →
      wpAnyF P ops Q (Agree w0) F fuel listed a w
  | .done, fuel, listed, env, a, w, _, hok, hf, h => by
    have : Region.ready .any ops listed = [] := by cases fuel <;> simpa [planOk] using hok
    exact wpAnyF_done this (hK _ _ _ hf h) fuel
  | .fin i p, 0, listed, env, a, w, _, hok, hf, h => by simp [planOk] at hok
  | .fin i p, fuel + 1, listed, env, a, w, hfin, hok, hf, h => by
    simp only [planOk, Bool.and_eq_true, beq_iff_eq] at hok
    obtain ⟨⟨⟨h0, h1⟩, h2⟩, h3⟩ := hok
    refine wpAnyF_all h2 (by simp) fun j hj => ?_
    simp at hj; subst hj
    simp only [planF] at h
    exact act1_sound hop hf h fun env' a' w' hf' hk' => ⟨.inl (by simpa using h1), fin_sound hop hK p fuel _ env' a' w' h0 h3 hf' hk'⟩
  | .take _ _, _, _, _, _, _, hfin, _, _, _ => by simp [Plan.onlyFin] at hfin
  | .act _ _, _, _, _, _, _, hfin, _, _, _ => by simp [Plan.onlyFin] at hfin
  | .alt _ _ _, _, _, _, _, _, hfin, _, _, _ => by simp [Plan.onlyFin] at hfin

mutual
theorem plan_sound {Q : Exit → Act → World → Prop} {K : Env → World → Prop} (hop : ∀ o ∈ ops.toList, opOk n o = true) (hs : Region.noSelect ops = true)
    (hQ : ∀ c a d v w, Q (.panic c) (Act.put a d v) w → Q (.panic c) a w) (hK : ∀ env a w, Fits n env a → K env w → Q .normal a w) :
    ∀ (pl : Plan) (fuel : Nat) (listed : Array Bool) (env : Env) (a : Act) (w : World), planOk ops F fuel listed pl = true → Closed ops listed → Agree w0 w → Fits n env a → planF P w0 ops K pl env w →
      wpAnyF P ops Q (Agree w0) F fuel listed a w
  | .done, fuel, listed, env, a, w, hok, hcl, hS, hf, h => by
    have : Region.ready .any ops listed = [] := by cases fuel <;> simpa [planOk] using hok
    exact wpAnyF_done this (hK _ _ _ hf h) fuel
  | .take i p, 0, listed, env, a, w, hok, hcl, hS, hf, h => by simp [planOk] at hok
  | .take i p, fuel + 1, listed, env, a, w, hok, hcl, hS, hf, h => by
    simp only [planOk, Bool.and_eq_true] at hok
    obtain ⟨⟨⟨h0, h1⟩, h2⟩, h3⟩ := hok
    simp only [planF] at h
    cases hi : ops[i]? with
    | none => rw [hi, sel_none] at h; exact h.elim
    | some o =>
      rw [hi, sel_some] at h
      exact take1_sound hi hs h0 h1 h2 hcl (fun c a v w => hQ c a o.dst v w) hS (hop o (by simpa using Array.mem_of_getElem? hi)) hf h
        (fun env' a' hf' hk' => plan_sound hop hs hQ hK p fuel _ env' a' w h3 (hcl.set (by simpa using h2)) hS hf' hk')
  | .act i p, 0, listed, env, a, w, hok, hcl, hS, hf, h => by simp [planOk] at hok
  | .act i p, fuel + 1, listed, env, a, w, hok, hcl, hS, hf, h => by
    simp only [planOk, Bool.and_eq_true, beq_iff_eq] at hok
    refine wpAnyF_all hok.1 (by simp) fun j hj => ?_
    simp at hj; subst hj
    simp only [planF] at h
    exact act1_sound hop hf h fun env' a' w' hf' hk' => ⟨.inr fun _ => hk'.1, plan_sound hop hs hQ hK p fuel _ env' a' w' hok.2 (hcl.set (by rw [hok.1]; simp)) hk'.1 hf' hk'.2⟩
  | .fin i p, fuel, listed, env, a, w, hok, hcl, hS, hf, h => by
    refine fin_sound hop hK (.fin i p) fuel listed env a w ?_ hok hf h
    cases fuel <;> simp only [planOk, Bool.and_eq_true] at hok
    · simp at hok
    · simpa [Plan.onlyFin] using hok.1.1.1
  | .alt i p q, 0, listed, env, a, w, hok, hcl, hS, hf, h => by simp [planOk] at hok
  | .alt i p q, fuel + 1, listed, env, a, w, hok, hcl, hS, hf, h => by
    simp only [planOk, Bool.and_eq_true, beq_iff_eq] at hok
    obtain ⟨⟨h1, h2⟩, h3⟩ := hok
    simp only [planF] at h
    refine wpAnyF_all h1 (by simp) fun j hj => ?_
    rcases List.mem_cons.1 hj with rfl | hj
    · exact act1_sound hop hf h.1 fun env' a' w' hf' hk' => ⟨.inr fun _ => hk'.1, plan_sound hop hs hQ hK p fuel _ env' a' w' h2 (hcl.set (by rw [h1]; simp)) hk'.1 hf' hk'.2⟩
    · exact alt_sound hop hs hQ hK q fuel listed env a w h3 hcl (fun j hj => by rw [h1]; exact List.mem_cons_of_mem _ hj) hS hf h.2 j hj
theorem alt_sound {Q : Exit → Act → World → Prop} {K : Env → World → Prop} (hop : ∀ o ∈ ops.toList, opOk n o = true) (hs : Region.noSelect ops = true)
    (hQ : ∀ c a d v w, Q (.panic c) (Act.put a d v) w → Q (.panic c) a w) (hK : ∀ env a w, Fits n env a → K env w → Q .normal a w) :
    ∀ (pl : Plan) (fuel : Nat) (listed : Array Bool) (env : Env) (a : Act) (w : World), altOk ops F fuel listed pl = true → Closed ops listed → (∀ j ∈ pl.firsts, j ∈ Region.ready .any ops listed) → Agree w0 w → Fits n env a → planF P w0 ops K pl env w →
      ∀ j ∈ pl.firsts, wpOpX P ops Q j (fun a' w' => (j ∈ F ∨ (Agree w0 w → Agree w0 w')) ∧ wpAnyF P ops Q (Agree w0) F fuel (listed.setIfInBounds j true) a' w') a w
  | .done, _, _, _, _, _, hok, _, _, _, _, _ => by simp [altOk] at hok
  | .take _ _, _, _, _, _, _, hok, _, _, _, _, _ => by simp [altOk] at hok
  | .act i p, fuel, listed, env, a, w, hok, hcl, hrd, hS, hf, h => by
    intro j hj
    simp only [Plan.firsts, List.mem_singleton] at hj; subst hj
    simp only [altOk] at hok
    simp only [planF] at h
    exact act1_sound hop hf h fun env' a' w' hf' hk' => ⟨.inr fun _ => hk'.1, plan_sound hop hs hQ hK p fuel _ env' a' w' hok (hcl.set (hrd _ (by simp [Plan.firsts]))) hk'.1 hf' hk'.2⟩
  | .fin i p, fuel, listed, env, a, w, hok, hcl, hrd, hS, hf, h => by
    intro j hj
    simp only [Plan.firsts, List.mem_singleton] at hj; subst hj
    simp only [altOk, Bool.and_eq_true] at hok
    simp only [planF] at h
    exact act1_sound hop hf h fun env' a' w' hf' hk' => ⟨.inl (by simpa using hok.1.2), fin_sound hop hK p fuel _ env' a' w' hok.1.1 hok.2 hf' hk'⟩
  | .alt i p q, fuel, listed, env, a, w, hok, hcl, hrd, hS, hf, h => by
    intro j hj
    simp only [altOk, Bool.and_eq_true] at hok
    simp only [planF] at h
    rcases List.mem_cons.1 hj with rfl | hj
    · exact act1_sound hop hf h.1 fun env' a' w' hf' hk' => ⟨.inr fun _ => hk'.1, plan_sound hop hs hQ hK p fuel _ env' a' w' hok.1 (hcl.set (hrd _ (by simp [Plan.firsts]))) hk'.1 hf' hk'.2⟩
    · exact alt_sound hop hs hQ hK q fuel listed env a w hok.2 hcl (fun j hj => hrd j (by simp [Plan.firsts, hj])) hS hf h.2 j hj
end
end
end Go.Proofs.YtdfjfagljngciaaGreat.Rx
namespace Go.Proofs.YtdfjfagljngciaaGreat.Rx
open Go.RowKit

structure Hints where
  loops : List (Nat × Hint) := []
  scopes : List (Nat × (Nat × Hint)) := []
  plans : List (Nat × Plan) := []
  blanks : List (Nat × Plan) := []
  joins : List (Nat × Hint) := []
  rjoins : List (Nat × Hint) := []

def hasL : Code → Nat → Bool
  | .seq a b, l => hasL a l || hasL b l
  | .label l', l => l' == l
  | _, _ => false
theorem hasL_spec : ∀ (c : Code) (l : Nat), hasL c l = (findLabel c l).isSome
  | .seq a b, l => by
    simp only [hasL, findLabel, hasL_spec a l, hasL_spec b l]
    cases findLabel a l <;> simp
  | .label l', l => by
    simp only [hasL, findLabel]
    cases h : l' == l <;> simp
  | .skip, _ | .region _ _ _, _ | .cond _ _ _, _ | .block _ _, _ | .loop _, _ | .rangeFunc _ _ _ _, _ | .exit _, _ | .scope _, _ | .goto _, _ | .ret, _ | .refuse _, _ => by simp [hasL, findLabel]

def isReg : Code → Bool
  | .region _ _ _ => true
  | _ => false

/-- The ways meet: what is known behind a piece of code, of some slots and of the world. -/
def Meet {σ : Type} (carry keep : List Nat) (env0 : Env) (V : σ → List Value) (I : σ → World → Prop) : Env → World → Prop :=
  fun env w => ∃ g, gets env carry = some (V g) ∧ keepE env keep = env0 ∧ I g w
def joinF (h : Hint) (x : (Env → World → Prop) → Env → World → Prop) (y : Env → World → Prop) (env : Env) (w : World) : Prop :=
  ∃ (σ : Type) (V : σ → List Value) (I : σ → World → Prop) (env0 : Env), keepE env h.keep = env0 ∧ x (Meet h.carry h.keep env0 V I) env w ∧ ∀ g w', I g w' → y (puts h.carry (V g) env0) w'
def blankF (P : Program) (all : Array Oper) (K : Env → World → Prop) (p : Plan) (env : Env) (w : World) : Prop := ∃ w0, Agree w0 w ∧ planF P w0 all K p env w.drew
def drawF (P : Program) (H : Hints) (id : Nat) (all : Array Oper) (K : Env → World → Prop) (env : Env) (w : World) : Prop :=
  sel (look H.plans id) (fun p => planF P w all K p env w.drew) (sel (look H.blanks id) (fun p => blankF P all K p env w) False)
def reg0 (P : Program) (H : Hints) (id : Nat) (all : Array Oper) (draw : Bool) (K : Env → World → Prop) (env : Env) (w : World) : Prop :=
  ifB draw (drawF P H id all K env w) (ops P all K all.toList env w)
def regF (P : Program) (H : Hints) (id : Nat) (all : Array Oper) (draw : Bool) (K : Env → World → Prop) (env : Env) (w : World) : Prop :=
  sel (look H.rjoins id) (fun h => joinF h (reg0 P H id all draw) K env w) (reg0 P H id all draw K env w)

/-- yield is called: a round. -/
def YAt (P : Program) (l : Nat) (args : Array Value) (W : World) (R : Ending → World → Prop) : Prop :=
  ∃ fn tmps assign body, (Instr.yield l args).run P W = .ok (.round l fn tmps assign body) W ∧ RoundIn Fence.wide 0 P l fn tmps assign body W R
/-- An iterator: it calls yield with what R reads as the elements of xs, one by one; it only lays new blocks. A: the blocks that others may write. -/
def Iter {α : Type} (P : Program) (gf : Nat) (lb : Array Value) (R : (Nat → Prop) → World → α → List Value → Prop) (xs : List α) (A0 : Nat → Prop) (w0 : World) : Prop :=
  ∀ (l : Nat) (J : Nat → (Nat → Prop) → World → Prop) (E : World → Prop) (A : Nat → Prop) (W : World),
    Keep w0 W → (∀ k, A k → A0 k ∨ w0.heap.size ≤ k) →
    (∀ i B V, J i B V → ∀ k, B k → k < V.heap.size) → (∀ i B V V', J i B V → Keep V V' → J i B V') → (∀ V V', E V → Keep V V' → E V') →
    (∀ i x B V vs, xs[i]? = some x → J i B V → R B V x vs → YAt P l vs.toArray V fun e V' =>
      (e = .returned (.bool true) ∧ ∃ B', J (i + 1) B' V' ∧ Step B V V' ∧ ∀ k, B' k → B k ∨ V.heap.size ≤ k) ∨ (e = .returned (.bool false) ∧ E V')) →
    J 0 A W →
    Calls P gf (#[.func (.yield l) #[] #[]] ++ lb) W fun e V => (∃ v, e = .returned v) ∧ ((∃ B, J xs.length B V) ∨ E V)
/-- How a round may end. -/
def roundQ (A : Nat → Prop) (V V2 : World) (J : (Nat → Prop) → World → Prop) (E : Exit → World → Prop) : Exit → Env → World → Prop
  | .normal, _, V' => ∃ A', J A' V' ∧ Step (fun k => A k ∨ V.heap.size ≤ k) V2 V' ∧ ∀ k, A' k → A k ∨ V.heap.size ≤ k
  | .ret, _, V' => E .ret V' ∧ Step (fun k => A k ∨ V.heap.size ≤ k) V2 V'
  | .exit id, _, V' => E (.exit id) V' ∧ Step (fun k => A k ∨ V.heap.size ≤ k) V2 V'
  | .goto t, _, V' => E (.goto t) V' ∧ Step (fun k => A k ∨ V.heap.size ≤ k) V2 V'
  | _, _, _ => False
def isJump : Exit → Bool
  | .ret | .exit _ | .goto _ => true
  | _ => false
def markE (w : World) (env : Env) : Env := (1000003, (false, .int .i64 w.heap.size)) :: env
def rangeF (P : Program) (rnd : Bool) (g : Option (Bool × Value)) (ps : List Nat) (asg : (Env → World → Prop) → Env → World → Prop) (body : (Exit → Env → World → Prop) → Env → World → Prop)
    (Q : Exit → Env → World → Prop) (env : Env) (w : World) : Prop :=
  rnd = false ∧ get env 1000003 = none ∧
  ∃ (gf : Nat) (lb : Array Value) (α : Type) (R : (Nat → Prop) → World → α → List Value → Prop) (xs : List α) (I : Nat → (Nat → Prop) → World → Prop) (E : Exit → World → Prop) (A0 : Nat → Prop),
    g = some (true, .func (.func gf) #[] lb) ∧ (∀ args w, (callFunc gf args).run P w = .ok (.enter gf args) w) ∧ Iter P gf lb R xs A0 w ∧
    (∀ i A V, I i A V → ∀ k, A k → k < V.heap.size ∧ k ≠ w.heap.size ∧ k ≠ w.heap.size + 1) ∧
    (∀ i A V V', I i A V → Step (fun k => k = w.heap.size ∨ k = w.heap.size + 1) V V' → I i A V') ∧
    (∀ e V V', E e V → Step (fun k => k = w.heap.size ∨ k = w.heap.size + 1) V V' → E e V') ∧
    I 0 A0 w ∧
    (∀ i x A V vs, xs[i]? = some x → I i A V → R (fun k => A k ∨ k = w.heap.size ∨ k = w.heap.size + 1) V x vs → vs.length = ps.length ∧
      asg (fun env1 V1 => Step A V V1 ∧ ∀ V2, Step (fun k => k = w.heap.size + 1) V1 V2 → body (roundQ A V V2 (I (i + 1)) E) env1 V2) (puts ps vs env) V) ∧
    (∀ A V, I xs.length A V → V.heap[w.heap.size]? = some (.deferred (some [])) → Q .normal (markE w env) V) ∧
    (∀ e V, isJump e = true → E e V → V.heap[w.heap.size]? = some (.deferred (some [])) → Q e (markE w env) V)
def botQ : Exit → Env → World → Prop := fun _ _ _ => False

def code (P : Program) (H : Hints) : Bool → Option Nat → Code → (Exit → Env → World → Prop) → Env → World → Prop
  | rnd, none, .rangeFunc g ps x y, Q, env, w => rangeF P rnd (ent env g) ps.toList (fun K => code P H true none x (thenQ K botQ)) (fun Q' => code P H true none y Q') Q env w
  | rnd, none, .skip, Q, env, w => Q .normal env w
  | rnd, none, .seq x y, Q, env, w =>
    ifB (isReg x) (code P H rnd none x (thenQ (code P H rnd none y Q) Q) env w)
      (sel ((firstReg x).bind (look H.joins)) (fun h => joinF h (fun K => code P H rnd none x (thenQ K Q)) (code P H rnd none y Q) env w) (code P H rnd none x (thenQ (code P H rnd none y Q) Q) env w))
  | rnd, none, .cond c x y, Q, env, w => condF (ent env c) (code P H rnd none x Q env w) (code P H rnd none y Q env w)
  | rnd, none, .block id b, Q, env, w => code P H rnd none b (blockQ id Q) env w
  | rnd, none, .exit id, Q, env, w => Q (.exit id) env w
  | rnd, none, .ret, Q, env, w => Q .ret env w
  | rnd, none, .goto l, Q, env, w => Q (.goto l) env w
  | rnd, none, .label _, Q, env, w => Q .normal env w
  | rnd, none, .region id ops draw, Q, env, w => regF P H id ops draw (Q .normal) env w
  | rnd, none, .loop b, Q, env, w => sel ((firstReg b).bind (look H.loops)) (fun h => loopF h.carry h.keep (fun K => code P H rnd none b (thenQ K Q)) env w) False
  | rnd, none, .scope b, Q, env, w => sel ((firstReg b).bind (look H.scopes))
      (fun h => ifB (hasL b h.1) (scopeF h.2.carry h.2.keep (fun K => code P H rnd none b (gotoQ h.1 K Q)) (fun K => code P H rnd (some h.1) b (gotoQ h.1 K Q)) env w) False)
      (code P H rnd none b (noGotoQ Q) env w)
  | rnd, some l, .seq x y, Q, env, w => ifB (hasL x l) (code P H rnd (some l) x (thenQ (code P H rnd none y Q) Q) env w) (code P H rnd (some l) y Q env w)
  | rnd, some l, .label l', Q, env, w => ifB (l' == l) (Q .normal env w) False
  | _, _, _, _, _, _ => False

def chk (n : Nat) (H : Hints) : Code → Bool
  | .seq x y => chk n H x && chk n H y
  | .cond _ x y => chk n H x && chk n H y
  | .block _ b => chk n H b
  | .loop b => chk n H b
  | .scope b => chk n H b
  | .rangeFunc _ ps x y => (ps.toList.all (fun t => decide (t < n)) && decide ps.toList.Nodup) && chk n H x && chk n H y
  | .region id ops draw => ops.toList.all (opOk n) && (!draw || (Region.noSelect ops && match look H.plans id with
      | some p => planOk ops p.fins ops.size (Array.replicate ops.size false) p
      | none => match look H.blanks id with
        | some p => planOk ops p.fins ops.size (Array.replicate ops.size false) p
        | none => true))
  | _ => true

def NoP (Q : Exit → Env → World → Prop) : Prop := ∀ c env w, ¬ Q (.panic c) env w
theorem NoP.thenQ {k : Env → World → Prop} {Q : Exit → Env → World → Prop} (h : NoP Q) : NoP (thenQ k Q) := fun c env w hq => h c env w hq
theorem NoP.blockQ {id : Nat} {Q : Exit → Env → World → Prop} (h : NoP Q) : NoP (blockQ id Q) := fun c env w hq => h c env w hq
theorem NoP.noGotoQ {Q : Exit → Env → World → Prop} (h : NoP Q) : NoP (noGotoQ Q) := fun c env w hq => h c env w hq
theorem NoP.gotoQ {l : Nat} {k : Env → World → Prop} {Q : Exit → Env → World → Prop} (h : NoP Q) : NoP (gotoQ l k Q) := fun c env w hq => h c env w hq

section
variable {P : Program} {n : Nat} {H : Hints}

theorem ifB_elim {b : Bool} {x y : Prop} (h : ifB b x y) : (b = true ∧ x) ∨ (b = false ∧ y) := by
  cases b
  · exact .inr ⟨rfl, h⟩
  · exact .inl ⟨rfl, h⟩
theorem sel_elim {α : Type} {x : Option α} {f : α → Prop} {g : Prop} (h : sel x f g) : (∃ v, x = some v ∧ f v) ∨ (x = none ∧ g) := by
  cases x
  · exact .inr ⟨rfl, h⟩
  · exact .inl ⟨_, rfl, h⟩

theorem drew_eq (w : World) : w.drew = { w with drawn := w.drawn + 1 } := rfl

theorem reg0_sound (hm : P.follows .mixedOrders = true) {id : Nat} {all : Array Oper} {draw : Bool} (hc : chk n H (.region id all draw) = true)
    {K : Env → World → Prop} {Q : Exit → Act → World → Prop} (hQ : ∀ c a w, ¬ Q (.panic c) a w) (hK : ∀ env a w, Fits n env a → K env w → Q .normal a w)
    {F : Fence} (hF : Free F) {m : Nat} {env : Env} {a : Act} {w : World} (hf : Fits n env a) (h : reg0 P H id all draw K env w) : (Code.region id all draw).wpIn F m P Q a w := by
  simp only [chk, Bool.and_eq_true, List.all_eq_true] at hc
  obtain ⟨hop, hd⟩ := hc
  cases draw with
  | false =>
    have h' : ops P all K all.toList env w := h
    exact wpIn_region_list (wpListX_in hF _ _ _ hop (ops_sound hK _ _ _ _ hop hf h'))
  | true =>
    have h' : drawF P H id all K env w := h
    simp only [Bool.not_true, Bool.false_or, Bool.and_eq_true] at hd
    obtain ⟨hs, hp⟩ := hd
    have fin : ∀ (p : Plan) (w0 : World), planOk all p.fins all.size (Array.replicate all.size false) p = true → Agree w0 w → planF P w0 all K p env w.drew → (Code.region id all true).wpIn F m P Q a w := by
      intro p w0 hok hag hpl
      refine wp_region_F (S := Agree w0) (F := p.fins) hF hop hm ?_
      exact plan_sound hop hs (fun c a d v w hq => (hQ c _ w hq).elim) hK p _ _ env a w.drew hok (Closed.start _ _) hag hf hpl
    rcases sel_elim h' with ⟨p, hpl, hx⟩ | ⟨hno, hx⟩
    · rw [hpl] at hp
      exact fin p w hp (Agree.refl w) hx
    · rw [hno] at hp
      rcases sel_elim hx with ⟨p, hpl, w0, hag, hx⟩ | ⟨_, hx⟩
      · rw [hpl] at hp
        exact fin p w0 hp hag hx
      · exact hx.elim

theorem regF_sound (hm : P.follows .mixedOrders = true) {id : Nat} {all : Array Oper} {draw : Bool} (hc : chk n H (.region id all draw) = true)
    {K : Env → World → Prop} {Q : Exit → Act → World → Prop} (hQ : ∀ c a w, ¬ Q (.panic c) a w) (hK : ∀ env a w, Fits n env a → K env w → Q .normal a w)
    {F : Fence} (hF : Free F) {m : Nat} {env : Env} {a : Act} {w : World} (hf : Fits n env a) (h : regF P H id all draw K env w) : (Code.region id all draw).wpIn F m P Q a w := by
  rcases sel_elim h with ⟨hh, _, σ, V, I, env0, hk, hx, hy⟩ | ⟨_, hx⟩
  · exact reg0_sound hm hc hQ (fun env' a' w' hf' ⟨g, h1, h2, h3⟩ => hK _ _ _ (hf'.back h1 h2) (hy g w' h3)) hF hf hx
  · exact reg0_sound hm hc hQ hK hF hf hx

theorem wpIn_flip {F : Fence} {m : Nat} {c : Code} {Q Q' : Exit → Act → World → Prop} {a : Act} {w : World} (hq : ∀ e a w, Q e a w → Q' e a w) (h : c.wpIn F m P Q a w) : c.wpIn F m P Q' a w := Go.wpIn_mono h hq
theorem get_puts_none : ∀ {l : List Nat} {vs : List Value} {env : Env}, (∀ t ∈ l, t < 1000003) → get env 1000003 = none → get (puts l vs env) 1000003 = none
  | [], _, _, _, h => h
  | _ :: _, [], _, _, h => h
  | s :: r, v :: vs, env, hl, h => by
    have h1 : s < 1000003 := hl s (by simp)
    simp only [puts, get, if_neg (show ¬ s = 1000003 from by omega)]
    exact get_puts_none (fun t ht => hl t (by simp [ht])) h
theorem get_puts_out : ∀ {l : List Nat} {vs : List Value} {env : Env} {t : Nat}, t ∉ l → get (puts l vs env) t = get env t
  | [], _, _, _, _ => rfl
  | _ :: _, [], _, _, _ => rfl
  | s :: r, v :: vs, env, t, h => by
    simp only [puts, get]
    rw [if_neg (fun e => h (by simp [e]))]
    exact get_puts_out (fun q => h (by simp [q]))
/-- The temporaries at a round's start. -/
theorem fits_round {n : Nat} {env : Env} {a : Act} (hf : Fits n env a) (hm : get env 1000003 = none) {ps : List Nat} (hps : ∀ t ∈ ps, t < n) (hnd : ps.Nodup) {vs : List Value} (hl : vs.length = ps.length) :
    Fits n (puts ps vs env) { tmps := (ps.zip vs).foldl (fun t (p, v) => t.setIfInBounds p v) a.tmps, defers := [] } := by
  have hsz : ∀ (l : List (Nat × Value)) (t : Array Value), (l.foldl (fun t (p, v) => t.setIfInBounds p v) t).size = t.size := by
    intro l
    induction l with
    | nil => intro t; rfl
    | cons x r ih => intro t; rw [List.foldl_cons, ih]; simp
  have hlim := hf.lim
  have hm' : get (puts ps vs env) 1000003 = none := get_puts_none (fun t ht => by have := hps t ht; omega) hm
  refine ⟨by rw [hsz]; exact hf.size, hf.lim, by rw [hm']; rfl, ?_⟩
  have hin : ∀ (l : List Nat) (us : List Value) (t : Array Value), l.Nodup → us.length = l.length → (∀ s ∈ l, s < t.size) → ∀ s, ((l.zip us).foldl (fun t (p, v) => t.setIfInBounds p v) t).getD s undef = (match l.zip us |>.find? (fun x => x.1 == s) with | some x => x.2 | none => t.getD s undef) := by
    intro l
    induction l with
    | nil => intro us t _ _ _ s; simp
    | cons p r ih =>
      intro us t hnd hl hb s
      cases us with
      | nil => simp at hl
      | cons u us =>
        simp only [List.zip_cons_cons, List.foldl_cons]
        have hnd' := List.nodup_cons.1 hnd
        rw [ih us _ hnd'.2 (by simpa using hl) (fun q hq => by simp; exact hb q (by simp [hq])) s]
        simp only [List.find?_cons]
        by_cases e : p = s
        · subst e
          have hno : (r.zip us).find? (fun x => x.1 == p) = none := by
            rw [List.find?_eq_none]
            intro x hx
            have := (List.of_mem_zip hx).1
            simp only [beq_iff_eq]
            intro e; exact hnd'.1 (e ▸ this)
          rw [hno]
          have := hb p (by simp)
          simp [this]
        · have : (p == s) = false := by simp [e]
          rw [this]
          cases (r.zip us).find? (fun x => x.1 == s) with
          | some x => rfl
          | none => simp [Array.getD_eq_getD_getElem?, e]
  have hget : ∀ (l : List Nat) (us : List Value) (e : Env), us.length = l.length → ∀ s, get (puts l us e) s = (match l.zip us |>.find? (fun x => x.1 == s) with | some x => some (true, x.2) | none => get e s) := by
    intro l
    induction l with
    | nil => intro us e _ s; simp [puts]
    | cons p r ih =>
      intro us e hl s
      cases us with
      | nil => simp at hl
      | cons u us =>
        simp only [puts, get, List.zip_cons_cons, List.find?_cons]
        by_cases q : p = s
        · subst q; simp
        · have : (p == s) = false := by simp [q]
          rw [if_neg q, this]
          exact ih us e (by simpa using hl) s
  intro t c v hg
  rw [hget ps vs env hl t] at hg
  rw [hin ps vs a.tmps hnd hl (fun s hs => by rw [hf.size]; exact hps s hs) t]
  cases he : (ps.zip vs).find? (fun x => x.1 == t) with
  | some x =>
    rw [he] at hg
    simp only [Option.some.injEq, Prod.mk.injEq] at hg
    obtain ⟨rfl, rfl⟩ := hg
    simp [cv]
  | none =>
    rw [he] at hg
    exact hf.has t c v hg
theorem range_sound {P : Program} {n : Nat} {F : Fence} (hF : Free F) {m : Nat} {rnd : Bool} {g : Operand} {ps : Array Tmp} {assign body : Code} {asg : (Env → World → Prop) → Env → World → Prop} {bodyF : (Exit → Env → World → Prop) → Env → World → Prop}
    {Q : Exit → Env → World → Prop} (hn : NoP Q) {env : Env} {a : Act} {w : World} (hf : Fits n env a) (hps : (∀ t ∈ ps.toList, t < n) ∧ ps.toList.Nodup)
    (hasg : ∀ F', Free F' → ∀ (l : Nat) K env a w, Fits n env a → asg K env w → assign.wpIn (F'.inRound l) 0 P (Lift n (thenQ K botQ)) a w)
    (hbody : ∀ F', Free F' → ∀ (l : Nat) Q env a w, NoP Q → Fits n env a → bodyF Q env w → body.wpIn (F'.inRound l) 0 P (Lift n Q) a w)
    (hro' : rnd = false → F.round = none) (h : rangeF P rnd (ent env g) ps.toList asg bodyF Q env w) : (Code.rangeFunc g ps assign body).wpIn F m P (Lift n Q) a w := by
  obtain ⟨hr0, hnm, gf, lb, α, R, xs, I, E, A0, hg, heg, hit, hIA, hIs, hEs, h0, hround, hdone, hstop⟩ := h
  have hro := hro' hr0
  have hnd : a.defers = [] := by rw [hf.defers, hnm]; rfl
  have hev : a.eval g = .func (.func gf) #[] lb := by
    rw [← hf.eval (x := g) (by rw [hg]; exact fun _ => rfl)]
    simp [rho, hg, vOf]
  refine wpIn_rangeFunc ?_
  intro fn hfn
  rw [hro]
  obtain ⟨rec, hrec⟩ : ∃ rec : LoopState → Option Code → Loop, rec = fun st pe => { state := st, pending := pe, fn, tmps := a.tmps, params := ps, assign, body, defers := w.heap.size } := ⟨_, rfl⟩
  obtain ⟨W1, hW1⟩ : ∃ W1, (w.alloc (.deferred (some []))).alloc (.loop (rec .ready none)) = W1 := ⟨_, rfl⟩
  have hL1 : W1.heap[w.heap.size + 1]? = some (.loop (rec .ready none)) := by
    rw [← hW1]; have := World.alloc_heap_new (w.alloc (.deferred (some []))) (.loop (rec .ready none)); rwa [World.size_alloc] at this
  have hK1 : W1.heap[w.heap.size]? = some (.deferred (some [])) := by
    rw [← hW1]; exact (Below.heap_alloc _ _ _ (by simp)).trans (World.alloc_heap_new w _)
  have kw1 : Keep w W1 := by rw [← hW1]; exact ((Step.refl _ w).alloc _).alloc _
  refine ⟨w.heap.size + 1, [{ target := .collected w.heap.size, args := #[] }], W1, { target := .fn (.func gf) lb, args := #[.func (.yield (w.heap.size + 1)) #[] #[]] }, W1, gf,
    #[.func (.yield (w.heap.size + 1)) #[] #[]] ++ lb, W1, ?_, ?_, fun f _ => hF.fn f, ?_, fun q => by (rw [hF.depth] at q; cases q), ?_⟩
  · rw [← hW1, hrec]; exact run_enterLoop_outer _ _ _ _ _
  · simp only [resolve, hev]
    simp [go_sem]
  · simp [invoke, go_sem, heg]
  · have fin : ∀ {V : World}, ∀ (jump : Option Code), V.heap[w.heap.size + 1]? = some (.loop { rec .ready none with state := .busy }) →
        (Instr.endRound (w.heap.size + 1) jump).run P V = .ok (.bool jump.isNone) (V.putObj (w.heap.size + 1) (.loop (rec (if jump.isNone then .ready else .done) jump))) := fun {V} jump hl => by
      have := run_endRound (P := P) jump hl
      rw [hrec] at this ⊢
      exact this
    have hfits : ∀ {D : List Deferred}, D = [{ target := .collected w.heap.size, args := #[] }] → Fits n (markE w env) { a with defers := D ++ a.defers } := by
      rintro D rfl
      refine ⟨hf.size, hf.lim, by simp [hnd, markE, get, marksE], fun t c v hg => ?_⟩
      simp only [markE, get] at hg
      split at hg
      · rename_i q
        have := hf.lim
        have hs := hf.size
        subst q
        cases hg
        rw [Array.getD_eq_getD_getElem?, Array.getElem?_eq_none (by show a.tmps.size ≤ _; omega)]
        rfl
      · exact hf.has t c v hg
    refine (hF.calls (m := 0) (callsIn_wide.2 (hit (w.heap.size + 1)
      (fun i A V => ∃ A1 : Nat → Prop, (A = fun k => A1 k ∨ k = w.heap.size ∨ k = w.heap.size + 1) ∧ I i A1 V ∧ V.heap[w.heap.size + 1]? = some (.loop (rec .ready none)) ∧ V.heap[w.heap.size]? = some (.deferred (some [])))
      (fun V => ∃ e c, isJump e = true ∧ ((e = .ret ∧ c = .ret) ∨ (∃ id, e = .exit id ∧ c = .exit id) ∨ (∃ t, e = .goto t ∧ c = .goto t)) ∧ E e V ∧ V.heap[w.heap.size + 1]? = some (.loop (rec .done (some c))) ∧ V.heap[w.heap.size]? = some (.deferred (some [])))
      (fun k => A0 k ∨ k = w.heap.size ∨ k = w.heap.size + 1) W1 kw1
      (by rintro k (q | rfl | rfl) <;> first | exact .inl q | (right; omega))
      ?_ ?_ ?_ ?_ ⟨A0, rfl, hIs _ _ _ _ h0 (kw1.any), hL1, hK1⟩))).mono ?_
    · rintro i B V ⟨A1, rfl, hi, hl, hk⟩ k (q | rfl | rfl)
      · exact (hIA _ _ _ hi k q).1
      · exact (Array.getElem?_eq_some_iff.1 hk).1
      · exact (Array.getElem?_eq_some_iff.1 hl).1
    · rintro i B V V' ⟨A1, rfl, hi, hl, hk⟩ kv
      exact ⟨A1, rfl, hIs _ _ _ _ hi kv.any, kv.blk hl (fun q => q), kv.blk hk (fun q => q)⟩
    · rintro V V' ⟨e, c, hj, hc, he, hl, hk⟩ kv
      exact ⟨e, c, hj, hc, hEs _ _ _ he kv.any, kv.blk hl (fun q => q), kv.blk hk (fun q => q)⟩
    · rintro i x B V vs hx ⟨A1, rfl, hi, hl, hk⟩ hR
      obtain ⟨hlen, hrd⟩ := hround i x A1 V vs hx hi hR
      have hnl : ¬ A1 (w.heap.size + 1) := fun q => (hIA _ _ _ hi _ q).2.2 rfl
      have hnk : ¬ A1 w.heap.size := fun q => (hIA _ _ _ hi _ q).2.1 rfl
      have hlV := (Array.getElem?_eq_some_iff.1 hl).1
      have hy := run_yield (P := P) (args := vs.toArray) hl (by rw [hrec]; simp [hlen])
      rw [hrec] at hy
      refine ⟨fn, _, assign, body, hy, roundIn_of_wpIn (F := Fence.wide) trivial ?_⟩
      have hfr := fits_round hf hnm hps.1 hps.2 hlen
      have hz : (ps.zip vs.toArray).foldl (fun tmps (x : Nat × Value) => tmps.setIfInBounds x.1 x.2) a.tmps = (ps.toList.zip vs).foldl (fun t (p, v) => t.setIfInBounds p v) a.tmps := by
        rw [← Array.foldl_toList]; simp
      rw [← hz] at hfr
      refine wpIn_flip ?_ (hasg Fence.wide Free.wide (w.heap.size + 1) _ _ _ _ hfr hrd)
      rintro e a1 V1 ⟨env1, hf1, hq⟩
      cases e with
      | normal =>
        obtain ⟨hs1, hb⟩ := hq
        have hl1 := hs1.blk hl hnl
        have hk1 := hs1.blk hk hnk
        refine ⟨_, run_beginRound hl1 (by rw [hrec]), ?_⟩
        have hst := step_put V1 (w.heap.size + 1) (.loop { rec .ready none with state := .busy })
        have hl2 : (V1.putObj (w.heap.size + 1) (.loop { rec .ready none with state := .busy })).heap[w.heap.size + 1]? = some (.loop { rec .ready none with state := .busy }) := World.putObj_heap_same (Array.getElem?_eq_some_iff.1 hl1).1
        have hk2 := hst.blk hk1 (fun q => by omega)
        have h2 := hb _ hst
        generalize V1.putObj (w.heap.size + 1) (.loop { rec .ready none with state := .busy }) = V2 at hst hl2 hk2 h2
        refine wpIn_flip ?_ (hbody Fence.wide Free.wide (w.heap.size + 1) _ _ _ _ (by intro c env w hq; exact hq) hf1 h2)
        rintro e a3 V3 ⟨env3, hf3, hq⟩
        have hkV := (Array.getElem?_eq_some_iff.1 hk).1
        have post : Step (fun k => A1 k ∨ V.heap.size ≤ k) V2 V3 → V3.heap[w.heap.size + 1]? = some (.loop { rec .ready none with state := .busy }) ∧ V3.heap[w.heap.size]? = some (.deferred (some [])) := fun hs =>
          ⟨hs.blk hl2 (fun q => q.elim hnl (fun q => by omega)), hs.blk hk2 (fun q => q.elim hnk (fun q => by omega))⟩
        cases e with
        | normal =>
          obtain ⟨A', hi', hs3, hA'⟩ := hq
          obtain ⟨hl3, hk3⟩ := post hs3
          refine ⟨_, _, fin none hl3, .inl ⟨rfl, _, ⟨A', rfl, hIs _ _ _ _ hi' ((step_put _ _ _).mono (fun k _ q => .inr q)), World.putObj_heap_same (Array.getElem?_eq_some_iff.1 hl3).1, (step_put _ _ _).blk hk3 (by omega)⟩, ?_, ?_⟩⟩
          · refine Step.trans (O' := fun k => k = w.heap.size + 1) (Step.trans (O' := fun k => A1 k ∨ V.heap.size ≤ k) (Step.trans (O' := fun k => k = w.heap.size + 1) (hs1.mono (fun k _ q => .inl q)) hst (fun k _ q => .inr (.inr q))) hs3 (fun k hk q => q.elim .inl (fun q => by omega))) (step_put _ _ _) (fun k _ q => .inr (.inr q))
          · rintro k (q | rfl | rfl)
            · rcases hA' k q with q | q
              · exact .inl (.inl q)
              · exact .inr q
            · exact .inl (.inr (.inl rfl))
            · exact .inl (.inr (.inr rfl))
        | ret =>
          obtain ⟨hE, hs3⟩ := hq
          obtain ⟨hl3, hk3⟩ := post hs3
          exact ⟨_, _, fin (some .ret) hl3, .inr ⟨rfl, .ret, .ret, rfl, .inl ⟨rfl, rfl⟩, hEs _ _ _ hE ((step_put _ _ _).mono (fun k _ q => .inr q)), World.putObj_heap_same (Array.getElem?_eq_some_iff.1 hl3).1, (step_put _ _ _).blk hk3 (by omega)⟩⟩
        | exit id =>
          obtain ⟨hE, hs3⟩ := hq
          obtain ⟨hl3, hk3⟩ := post hs3
          exact ⟨_, _, fin (some (.exit id)) hl3, .inr ⟨rfl, .exit id, .exit id, rfl, .inr (.inl ⟨id, rfl, rfl⟩), hEs _ _ _ hE ((step_put _ _ _).mono (fun k _ q => .inr q)), World.putObj_heap_same (Array.getElem?_eq_some_iff.1 hl3).1, (step_put _ _ _).blk hk3 (by omega)⟩⟩
        | goto t =>
          obtain ⟨hE, hs3⟩ := hq
          obtain ⟨hl3, hk3⟩ := post hs3
          exact ⟨_, _, fin (some (.goto t)) hl3, .inr ⟨rfl, .goto t, .goto t, rfl, .inr (.inr ⟨t, rfl, rfl⟩), hEs _ _ _ hE ((step_put _ _ _).mono (fun k _ q => .inr q)), World.putObj_heap_same (Array.getElem?_eq_some_iff.1 hl3).1, (step_put _ _ _).blk hk3 (by omega)⟩⟩
        | panic c => exact hq.elim
        | outgrown => exact hq.elim
      | exit id => exact hq.elim
      | goto l => exact hq.elim
      | ret => exact hq.elim
      | panic c => exact hq.elim
      | outgrown => exact hq.elim
    · rintro e V ⟨⟨v, rfl⟩, ⟨B, A1, rfl, hi, hl, hk⟩ | ⟨e, c, hj, hc, he, hl, hk⟩⟩
      · refine ⟨none, _, by have := run_endLoop (P := P) hl (by rw [hrec]; simp); rw [hrec] at this; exact this, ?_⟩
        exact ⟨_, hfits rfl, hdone _ _ (hIs _ _ _ _ hi ((step_put _ _ _).mono (fun k _ q => .inr q))) ((step_put _ _ _).blk hk (by omega))⟩
      · have hend : (Instr.endLoop (w.heap.size + 1)).run P V = .ok (some c) (V.putObj (w.heap.size + 1) (.loop { rec .done (some c) with state := .exhausted })) := by
          have := run_endLoop (P := P) hl (by rw [hrec]; simp); rw [hrec] at this ⊢; exact this
        refine ⟨some c, _, hend, ?_⟩
        have hst := step_put V (w.heap.size + 1) (.loop { rec .done (some c) with state := .exhausted })
        have hq := hstop e _ hj (hEs _ _ _ he (hst.mono (fun k _ q => .inr q))) (hst.blk hk (by omega))
        rcases hc with ⟨rfl, rfl⟩ | ⟨id, rfl, rfl⟩ | ⟨t, rfl, rfl⟩
        · exact wpIn_ret ⟨_, hfits rfl, hq⟩
        · exact wpIn_exit ⟨_, hfits rfl, hq⟩
        · exact wpIn_goto ⟨_, hfits rfl, hq⟩
theorem code_sound (hm : P.follows .mixedOrders = true) : ∀ (c : Code), chk n H c = true → ∀ {F : Fence}, Free F → ∀ (m : Nat) (rnd : Bool), (rnd = false → F.round = none) →
    (∀ Q env a w, NoP Q → Fits n env a → code P H rnd none c Q env w → c.wpIn F m P (Lift n Q) a w) ∧
    (∀ l rest Q env a w, NoP Q → Fits n env a → findLabel c l = some rest → code P H rnd (some l) c Q env w → rest.wpIn F m P (Lift n Q) a w) := by
  intro c
  induction c with
  | skip => exact fun _ F hF m rnd hro => ⟨fun Q env a w _ hf h => wpIn_skip ⟨env, hf, by simpa only [code] using h⟩, fun l rest Q env a w _ _ hl => by simp [findLabel] at hl⟩
  | exit id => exact fun _ F hF m rnd hro => ⟨fun Q env a w _ hf h => wpIn_exit ⟨env, hf, by simpa only [code] using h⟩, fun l rest Q env a w _ _ hl => by simp [findLabel] at hl⟩
  | ret => exact fun _ F hF m rnd hro => ⟨fun Q env a w _ hf h => wpIn_ret ⟨env, hf, by simpa only [code] using h⟩, fun l rest Q env a w _ _ hl => by simp [findLabel] at hl⟩
  | goto l => exact fun _ F hF m rnd hro => ⟨fun Q env a w _ hf h => wpIn_goto ⟨env, hf, by simpa only [code] using h⟩, fun l rest Q env a w _ _ hl => by simp [findLabel] at hl⟩
  | refuse s => exact fun _ F hF m rnd hro => ⟨fun Q env a w _ hf h => by simp [code] at h, fun l rest Q env a w _ _ hl => by simp [findLabel] at hl⟩
  | rangeFunc g ps x y ihx ihy =>
    intro hc F hF m rnd hro
    simp only [chk, Bool.and_eq_true, List.all_eq_true, decide_eq_true_eq] at hc
    refine ⟨fun Q env a w hn hf h => ?_, fun l rest Q env a w _ _ hl => by simp [findLabel] at hl⟩
    simp only [code] at h
    refine range_sound hF hn hf hc.1.1 (fun F' hF' l K env a w hf' h' => ((ihx hc.1.2 (hF'.inRound l) 0 true (fun q => by cases q)).1 _ _ _ _ (fun _ _ _ hq => hq) hf' h')) (fun F' hF' l Q' env a w hn' hf' h' => ((ihy hc.2 (hF'.inRound l) 0 true (fun q => by cases q)).1 _ _ _ _ hn' hf' h')) hro h
  | label l' =>
    refine fun _ F hF m rnd hro => ⟨fun Q env a w _ hf h => wpIn_label ⟨env, hf, by simpa only [code] using h⟩, fun l rest Q env a w _ hf hl h => ?_⟩
    simp only [findLabel] at hl
    split at hl
    · rename_i e
      cases hl
      simp only [code, e, ifB] at h
      exact wpIn_skip ⟨env, hf, h⟩
    · cases hl
  | region id all draw =>
    refine fun hc F hF m rnd hro => ⟨fun Q env a w hn hf h => ?_, fun l rest Q env a w _ _ hl => by simp [findLabel] at hl⟩
    simp only [code] at h
    exact regF_sound hm hc (fun c a w ⟨env, _, hq⟩ => hn c env w hq) (fun env a w hf hk => ⟨env, hf, hk⟩) hF hf h
  | seq x y ihx ihy =>
    intro hc F hF m rnd hro
    simp only [chk, Bool.and_eq_true] at hc
    obtain ⟨hx, hx'⟩ := ihx hc.1 hF m rnd hro
    obtain ⟨hy, hy'⟩ := ihy hc.2 hF m rnd hro
    have plain : ∀ Q env a w, NoP Q → Fits n env a → code P H rnd none x (thenQ (code P H rnd none y Q) Q) env w → (Code.seq x y).wpIn F m P (Lift n Q) a w := by
      intro Q env a w hn hf h
      refine wpIn_seq (wpIn_flip (fun e a' w' hq => ?_) (hx _ env a w hn.thenQ hf h))
      obtain ⟨env', hf', hq⟩ := hq
      cases e with
      | normal => exact hy _ _ _ _ hn hf' hq
      | exit id => exact ⟨env', hf', hq⟩
      | goto l => exact ⟨env', hf', hq⟩
      | ret => exact ⟨env', hf', hq⟩
      | panic c => exact ⟨env', hf', hq⟩
      | outgrown => exact ⟨env', hf', hq⟩
    refine ⟨fun Q env a w hn hf h => ?_, fun l rest Q env a w hn hf hl h => ?_⟩
    · simp only [code] at h
      rcases ifB_elim h with ⟨_, h⟩ | ⟨_, h⟩
      · exact plain Q env a w hn hf h
      · rcases sel_elim h with ⟨hh, _, σ, V, I, env0, hk, h1, h2⟩ | ⟨_, h⟩
        · refine wpIn_seq (wpIn_flip (fun e a' w' hq => ?_) (hx _ env a w hn.thenQ hf h1))
          obtain ⟨env', hf', hq⟩ := hq
          cases e with
          | normal =>
            obtain ⟨g, e1, e2, e3⟩ := hq
            exact hy _ _ _ _ hn (hf'.back e1 e2) (h2 g w' e3)
          | exit id => exact ⟨env', hf', hq⟩
          | goto l => exact ⟨env', hf', hq⟩
          | ret => exact ⟨env', hf', hq⟩
          | panic c => exact ⟨env', hf', hq⟩
          | outgrown => exact ⟨env', hf', hq⟩
        · exact plain Q env a w hn hf h
    · simp only [code] at h
      have hsp := hasL_spec x l
      simp only [findLabel] at hl
      cases hfl : findLabel x l with
      | none =>
        rw [hfl] at hl hsp
        rcases ifB_elim h with ⟨hb, _⟩ | ⟨_, h⟩
        · rw [hsp] at hb; simp at hb
        · exact hy' l rest Q env a w hn hf hl h
      | some r =>
        rw [hfl] at hl hsp
        simp only [Option.some.injEq] at hl
        subst hl
        rcases ifB_elim h with ⟨_, h⟩ | ⟨hb, _⟩
        · refine wpIn_seq (wpIn_flip (fun e a' w' hq => ?_) (hx' l r _ env a w hn.thenQ hf hfl h))
          obtain ⟨env', hf', hq⟩ := hq
          cases e with
          | normal => exact hy _ _ _ _ hn hf' hq
          | exit id => exact ⟨env', hf', hq⟩
          | goto l => exact ⟨env', hf', hq⟩
          | ret => exact ⟨env', hf', hq⟩
          | panic c => exact ⟨env', hf', hq⟩
          | outgrown => exact ⟨env', hf', hq⟩
        · rw [hsp] at hb; simp at hb
  | cond c x y ihx ihy =>
    intro hc F hF m rnd hro
    simp only [chk, Bool.and_eq_true] at hc
    refine ⟨fun Q env a w hn hf h => ?_, fun l rest Q env a w _ _ hl => by simp [findLabel] at hl⟩
    simp only [code] at h
    generalize he : ent env c = e at h
    unfold condF at h
    split at h
    · rename_i b
      have hev : a.eval c = .bool b := by
        rw [← hf.eval (x := c) (by rw [he]; exact fun _ => rfl)]
        simp [rho, he, vOf]
      refine wpIn_cond_split hev (fun hb => (ihx hc.1 hF m rnd hro).1 _ _ _ _ hn hf (h.1 hb)) (fun hb => (ihy hc.2 hF m rnd hro).1 _ _ _ _ hn hf (h.2 hb))
    · exact h.elim
  | block id b ih =>
    intro hc F hF m rnd hro
    simp only [chk] at hc
    refine ⟨fun Q env a w hn hf h => ?_, fun l rest Q env a w _ _ hl => by simp [findLabel] at hl⟩
    simp only [code] at h
    refine wpIn_block (wpIn_flip (fun e a' w' hq => ?_) ((ih hc hF m rnd hro).1 _ _ _ _ hn.blockQ hf h))
    obtain ⟨env', hf', hq⟩ := hq
    cases e with
    | exit i =>
      simp only [blockQ] at hq
      by_cases hi : i = id
      · subst hi
        simp only [beq_self_eq_true, pickQ] at hq
        simp only [Exit.inBlock, if_true]; exact ⟨env', hf', hq⟩
      · have : (i == id) = false := by simp [hi]
        rw [this] at hq
        simp only [Exit.inBlock, if_neg hi]; exact ⟨env', hf', hq⟩
    | normal => exact ⟨env', hf', hq⟩
    | goto l => exact ⟨env', hf', hq⟩
    | ret => exact ⟨env', hf', hq⟩
    | panic c => exact ⟨env', hf', hq⟩
    | outgrown => exact ⟨env', hf', hq⟩
  | loop b ih =>
    intro hc F hF m rnd hro
    simp only [chk] at hc
    refine ⟨fun Q env a w hn hf h => ?_, fun l rest Q env a w _ _ hl => by simp [findLabel] at hl⟩
    simp only [code] at h
    rcases sel_elim h with ⟨hh, _, σ, V, I, μ, g0, env0, hk, hg, h0, hr⟩ | ⟨_, h⟩
    · refine wp_loop_ghost hF (fun g a w => Fits n (puts hh.carry (V g) env0) a ∧ I g w) μ g0 ⟨hf.back hg hk, h0⟩ (fun g a w ⟨hf, hI⟩ => ?_)
      refine wpIn_flip (fun e a' w' hq => ?_) ((ih hc hF m rnd hro).1 _ _ _ _ hn.thenQ hf (hr g w hI))
      obtain ⟨env', hf', hq⟩ := hq
      cases e with
      | normal =>
        obtain ⟨g', e1, e2, e3, e4⟩ := hq
        exact ⟨g', ⟨hf'.back e1 e2, e3⟩, e4⟩
      | exit id => exact ⟨env', hf', hq⟩
      | goto l => exact ⟨env', hf', hq⟩
      | ret => exact ⟨env', hf', hq⟩
      | panic c => exact ⟨env', hf', hq⟩
      | outgrown => exact ⟨env', hf', hq⟩
    · exact h.elim
  | scope b ih =>
    intro hc F hF m rnd hro
    simp only [chk] at hc
    refine ⟨fun Q env a w hn hf h => ?_, fun l rest Q env a w _ _ hl => by simp [findLabel] at hl⟩
    simp only [code] at h
    rcases sel_elim h with ⟨⟨l, hh⟩, _, h⟩ | ⟨_, h⟩
    · rcases ifB_elim h with ⟨hl, h⟩ | ⟨_, h⟩
      · rw [hasL_spec] at hl
        obtain ⟨rest, hfl⟩ := Option.isSome_iff_exists.1 hl
        obtain ⟨σ, V, I, μ, M, env0, h1, h2⟩ := h
        have conv : ∀ (m : Nat) e a' w', Lift n (gotoQ l (Back hh.carry hh.keep env0 V I μ m) Q) e a' w' →
            Exit.jump l (fun a w => ∃ g, (Fits n (puts hh.carry (V g) env0) a ∧ I g w) ∧ μ g < m) (Lift n Q) e a' w' := by
          intro m e a' w' ⟨env', hf', hq⟩
          cases e with
          | goto l' =>
            simp only [gotoQ] at hq
            by_cases hi : l' = l
            · subst hi
              simp only [beq_self_eq_true, pickQ] at hq
              obtain ⟨g', e1, e2, e3, e4⟩ := hq
              exact ⟨rfl, g', ⟨hf'.back e1 e2, e3⟩, e4⟩
            · have : (l' == l) = false := by simp [hi]
              rw [this] at hq
              exact hq.elim
          | exit id => exact ⟨env', hf', hq⟩
          | normal => exact ⟨env', hf', hq⟩
          | ret => exact ⟨env', hf', hq⟩
          | panic c => exact ⟨env', hf', hq⟩
          | outgrown => exact ⟨env', hf', hq⟩
        refine wp_scope_ghost hF l (fun g a w => Fits n (puts hh.carry (V g) env0) a ∧ I g w) μ hfl ?_ (fun g a w ⟨hf, hI⟩ => ?_)
        · refine wpIn_flip (fun e a' w' hq => ?_) ((ih hc hF m rnd hro).1 _ _ _ _ hn.gotoQ hf h1)
          have := conv M e a' w' hq
          cases e with
          | goto l' => obtain ⟨q1, g', q2, _⟩ := this; exact ⟨q1, g', q2⟩
          | exit id => exact this
          | normal => exact this
          | ret => exact this
          | panic c => exact this
          | outgrown => exact this
        · exact wpIn_flip (fun e a' w' hq => conv _ e a' w' hq) ((ih hc hF m rnd hro).2 l rest _ _ _ _ hn.gotoQ hf hfl (h2 g w hI))
      · exact h.elim
    · refine wpIn_scope_straight hF (wpIn_flip (fun e a' w' hq => ?_) ((ih hc hF m rnd hro).1 _ _ _ _ hn.noGotoQ hf h))
      obtain ⟨env', hf', hq⟩ := hq
      cases e with
      | goto l' => exact hq.elim
      | exit id => exact ⟨env', hf', hq⟩
      | normal => exact ⟨env', hf', hq⟩
      | ret => exact ⟨env', hf', hq⟩
      | panic c => exact ⟨env', hf', hq⟩
      | outgrown => exact ⟨env', hf', hq⟩
end
end Go.Proofs.YtdfjfagljngciaaGreat.Rx
namespace Go.Proofs.YtdfjfagljngciaaGreat.Rx
open Go.RowKit

def one : List Value → Value
  | [v] => v
  | vs => .tuple vs.toArray
def uponR (k : Value → Prop) : Result Value → Prop
  | .ok v _ => k v
  | _ => False
@[congr] theorem uponR_congr {k : Value → Prop} {r r' : Result Value} (h : r = r') : uponR k r = uponR k r' := by rw [h]
def resF (P : Program) (env : Env) (w : World) : List ResultVar → (List Value → Prop) → Prop
  | [], k => k []
  | .tmp t :: r, k => okE true (get env t) ∧ resF P env w r (fun vs => k (vOf (get env t) :: vs))
  | .cell a ty :: r, k => okE true (get env a) ∧ uponR (fun v => resF P env w r (fun vs => k (v :: vs))) ((Instr.loadAt ty (vOf (get env a))).run P w)
/-- What a range over a function has left is taken away as the function returns. -/
def endF (m : Option (Bool × Value)) (k : World → Prop) (w : World) : Prop := match m with
  | none => k w
  | some (_, .int _ d) => w.heap[d.toNat]? = some (.deferred (some [])) ∧ ∀ w', Step (fun k => k = d.toNat) w w' → k w'
  | _ => False
def retQ (P : Program) (rs : List ResultVar) (R : Ending → World → Prop) : Exit → Env → World → Prop
  | .normal, env, w | .ret, env, w => endF (get env 1000003) (fun w' => resF P env w' rs (fun vs => R (.returned (one vs)) w')) w
  | _, _, _ => False
def argsE : Nat → List Value → Env
  | _, [] => []
  | i, v :: r => (i, (true, v)) :: argsE (i + 1) r

theorem get_argsE : ∀ (l : List Value) (i t : Nat) (e : Bool × Value), get (argsE i l) t = some e → i ≤ t ∧ e.1 = true ∧ l[t - i]? = some e.2
  | [], i, t, e, h => by simp [argsE, get] at h
  | v :: r, i, t, e, h => by
    simp only [argsE, get] at h
    split at h
    · rename_i q; subst q
      cases h
      simp
    · obtain ⟨h1, h2, h3⟩ := get_argsE r (i + 1) t e h
      refine ⟨by omega, h2, ?_⟩
      rw [show t - i = (t - (i + 1)) + 1 from by omega]; simpa using h3

theorem resM (P : Program) (n : Nat) (w : World) {env : Env} {a : Act} (hf : Fits n env a) : ∀ (l : List ResultVar) (k : List Value → Prop), resF P env w l k →
    ∃ vs, (l.mapM (m := Sem) fun | .tmp t => pure (a.tmps.getD t undef) | .cell x t => do loadVar t (← asAddr (a.tmps.getD x undef))).run P w = .ok vs w ∧ k vs
  | [], k, h => ⟨[], by simp, h⟩
  | .tmp t :: r, k, h => by
    obtain ⟨h1, h2⟩ := h
    obtain ⟨vs, hr, hk⟩ := resM P n w hf r _ h2
    have he : vOf (get env t) = a.tmps.getD t undef := hf.eval (x := .tmp t) h1
    refine ⟨_, ?_, hk⟩
    rw [List.mapM_cons]
    simp only [Sem.run_bind, Sem.run_pure, Result.andThen_ok, hr, he]
  | .cell x ty :: r, k, h => by
    obtain ⟨h1, h2⟩ := h
    have he : vOf (get env x) = a.tmps.getD x undef := hf.eval (x := .tmp x) h1
    rw [he] at h2
    cases hrun : (Instr.loadAt ty (a.tmps.getD x undef)).run P w with
    | halt y w' => rw [hrun] at h2; exact h2.elim
    | ok v w' =>
      rw [hrun] at h2
      have hw : w' = w := (Still.loadAt (P := P) ty (a.tmps.getD x undef) _ _ _ hrun).1
      subst hw
      obtain ⟨vs, hr, hk⟩ := resM P n w' hf r _ h2
      refine ⟨_, ?_, hk⟩
      have hl : (do loadVar ty (← asAddr (a.tmps.getD x undef)) : Sem Value).run P w' = .ok v w' := by
        generalize a.tmps.getD x undef = u at hrun
        cases u <;> simp only [Instr.loadAt, Instr.sureAddr, Sem.run_bind] at hrun <;> first | (simp [stuck] at hrun; done) | skip
        rename_i y
        cases y with
        | none => simp [stuck] at hrun
        | some y => simpa [asAddr] using hrun
      rw [List.mapM_cons, Sem.run_bind]
      simp only [hl, Result.andThen_ok]
      rw [Sem.run_bind, hr]
      simp

theorem calls_of_rx {P : Program} {f : FuncId} {fn : Func} {c : Code} {args : Array Value} {w : World} {R : Ending → World → Prop} (H : Hints)
    (hf : P.funcs[f]? = some fn) (hb : fn.body = some c) (hm : P.follows .mixedOrders = true) (hc : chk fn.ntmps H c = true) (hs : args.size ≤ fn.ntmps) (hbig : fn.ntmps ≤ 1000003)
    (h : code P H false none c (retQ P fn.results.toList R) (argsE 0 args.toList) w) : Calls P f args w R := by
  refine callsIn_wide (n := 0) |>.1 (callsIn_of_wp_marks hf hb trivial ?_)
  have hfit : Fits fn.ntmps (argsE 0 args.toList) { tmps := args ++ Array.replicate (fn.ntmps - args.size) undef, defers := [] } := by
    have hno : get (argsE 0 args.toList) 1000003 = none := by
      cases hg : get (argsE 0 args.toList) 1000003 with
      | none => rfl
      | some e =>
        obtain ⟨_, _, h3⟩ := get_argsE _ _ _ _ hg
        have := (List.getElem?_eq_some_iff.1 h3).1
        simp at this
        omega
    refine ⟨by simp; omega, hbig, by rw [hno]; rfl, fun t c v hg => ?_⟩
    obtain ⟨_, h2, h3⟩ := get_argsE _ _ _ _ hg
    simp only at h2 h3
    subst h2
    simp only [cv, if_true]
    have : args[t]? = some v := by simpa using h3
    rw [Array.getD_eq_getD_getElem?, Array.getElem?_append_left (Array.getElem?_eq_some_iff.1 this).1, this]
    rfl
  refine wpIn_flip (fun e a w' hq => ?_) ((code_sound hm c hc Free.wide 0 false (fun _ => rfl)).1 _ _ _ _ (fun c env w hq => hq) hfit h)
  obtain ⟨env, hfe, hq⟩ := hq
  have res : ∀ w', resF P env w' fn.results.toList (fun vs => R (.returned (one vs)) w') → ∃ v, (results fn a.tmps).run P w' = .ok v w' ∧ R (.returned v) w' := by
    intro w' hr
    obtain ⟨vs, h1, h2⟩ := resM P _ _ hfe _ _ hr
    refine ⟨_, ?_, h2⟩
    unfold results
    rw [Array.mapM_eq_mapM_toList, Sem.run_bind, Sem.run_map]
    erw [h1]
    simp only [Result.andThen_ok, Sem.run_pure]
    congr 1
    cases vs with
    | nil => rfl
    | cons v r => cases r <;> rfl
  have fin : endF (get env 1000003) (fun w' => resF P env w' fn.results.toList (fun vs => R (.returned (one vs)) w')) w' → LeavesInM Fence.wide 0 P fn a.tmps R a.defers .returning w' := by
    intro hr
    rw [hfe.defers]
    unfold endF at hr
    split at hr
    · rename_i he
      rw [he]
      exact res _ hr
    · rename_i c q d he
      rw [he]
      refine ⟨by simp, .inl ⟨d.toNat, _, rfl, run_takeDeferred hr.1, ?_⟩⟩
      exact res _ (hr.2 _ (step_put _ _ _))
    · exact hr.elim
  cases e with
  | normal => exact fin hq
  | ret => exact fin hq
  | exit id => exact hq.elim
  | goto l => exact hq.elim
  | panic c => exact hq.elim
  | outgrown => exact hq.elim
end Go.Proofs.YtdfjfagljngciaaGreat.Rx
namespace Go.Proofs.YtdfjfagljngciaaGreat.Rx
open Go.RowKit

/-- A thing that is not looked into: 'simp' does not go into what a later argument's type hangs on. -/
inductive Tag {α : Type} (a : α) : Type
  | mk
def Shut {α : Type} (x : α) (_ : Tag x) : α := x

/-- An equation that 'simp' lays into its proof (and does not leave to the kernel's own reckoning). -/
theorem nd {α : Type} {a b : α} (h : a = b) : a = b := h
section
variable (P : Program) (H : Hints) (rnd : Bool) (env : Env) (w : World)

@[go_sem ↓] theorem shut_app2 {α β : Type} (f : α → β → Prop) (t : Tag f) (a : α) (b : β) : Shut f t a b = f a b := nd rfl
@[go_sem ↓] theorem shut_app3 {α β γ : Type} (f : α → β → γ → Prop) (t : Tag f) (a : α) (b : β) (c : γ) : Shut f t a b c = f a b c := nd rfl
@[go_sem ↓] theorem shut_app1 {α : Type} (f : α → Prop) (t : Tag f) (a : α) : Shut f t a = f a := nd rfl


@[go_sem] theorem get_cons (s t : Nat) (e : Bool × Value) (r : Env) : get ((s, e) :: r) t = if s = t then some e else get r t := nd rfl
@[go_sem] theorem get_nil (t : Nat) : get [] t = none := nd rfl
@[go_sem] theorem ent_tmp (t : Nat) : ent env (.tmp t) = get env t := nd rfl
@[go_sem] theorem ent_const (v : Value) : ent env (.const v) = some (true, v) := nd rfl
@[go_sem] theorem ent_global (g : Nat) : ent env (.global g) = some (true, .pointer (some ⟨g, 0, none⟩)) := nd rfl
@[go_sem] theorem ent_func (f : Nat) : ent env (.func f) = some (true, .func (.func f) #[] #[]) := nd rfl
@[go_sem] theorem rho_eq (x : Operand) : rho env x = vOf (ent env x) := nd rfl
@[go_sem] theorem vOf_some (p : Bool × Value) : vOf (some p) = p.2 := nd rfl
@[go_sem] theorem okE_some (c c' : Bool) (v : Value) : okE c (some (c', v)) = (c = true → c' = true) := nd rfl
@[go_sem] theorem okAll_nil (c : Bool) : okAll env c [] = True := nd rfl
@[go_sem] theorem okAll_cons (c : Bool) (x : Operand) (r : List Operand) : okAll env c (x :: r) = (okE c (ent env x) ∧ okAll env c r) := nd rfl
@[go_sem] theorem put_some (d : Nat) (c : Bool) (v : Value) : put env (some d) c v = (d, (c, v)) :: env := nd rfl
@[go_sem] theorem put_none (c : Bool) (v : Value) : put env none c v = env := nd rfl
@[go_sem] theorem upon_value (k : Value → World → Prop) (t : Tag k) (v : Value) : upon P (Shut k t) (.ok (.value v) w) = k v w := nd rfl
@[go_sem] theorem upon_skip (k : Value → World → Prop) (t : Tag k) : upon P (Shut k t) (.ok .skip w) = k undef w := nd rfl
@[go_sem] theorem upon_enter (k : Value → World → Prop) (t : Tag k) (f : FuncId) (args : Array Value) : upon P (Shut k t) (.ok (.enter f args) w) = Calls P f args w (Ret (Shut k t)) := nd rfl
@[go_sem] theorem uponV_value (k : Value → Prop) (t : Tag k) (v : Value) : uponV (Shut k t) (.ok (.value v) w) = k v := nd rfl
@[go_sem] theorem uponR_ok (k : Value → Prop) (t : Tag k) (v : Value) : uponR (Shut k t) (.ok v w) = k v := nd rfl
@[go_sem] theorem uponAll_ok (k : Value → Prop) (t : Tag k) (v : Value) : uponAll (Shut k t) (fun w => .ok (.value v) w) = k v := uponAll_val k v
@[go_sem] theorem sel_s {α : Type} (v : α) (f : α → Prop) (t : Tag f) (g : Prop) : sel (some v) (Shut f t) g = f v := nd rfl
@[go_sem] theorem sel_n {α : Type} (f : α → Prop) (g : Prop) (t : Tag g) : sel none f (Shut g t) = g := nd rfl
@[go_sem] theorem ifB_t (x y : Prop) (t : Tag x) : ifB true (Shut x t) y = x := nd rfl
@[go_sem] theorem ifB_f (x y : Prop) (t : Tag y) : ifB false x (Shut y t) = y := nd rfl
@[go_sem] theorem pickQ_t (x y : Prop) (t : Tag x) : pickQ true (Shut x t) y = x := nd rfl
@[go_sem] theorem pickQ_f (x y : Prop) (t : Tag y) : pickQ false x (Shut y t) = y := nd rfl
@[go_sem] theorem condF_t (x y : Prop) (t : Tag x) : condF (some (true, .bool true)) (Shut x t) y = x := by simp [condF, Shut]
@[go_sem] theorem condF_f (x y : Prop) (t : Tag y) : condF (some (true, .bool false)) x (Shut y t) = y := by simp [condF, Shut]
def impB (b : Bool) (x y : Prop) : Prop := (b = true → x) ∧ (b = false → y)
@[go_sem] theorem impB_t (x y : Prop) (t : Tag x) : impB true (Shut x t) y = x := by simp [impB, Shut]
@[go_sem] theorem impB_f (x y : Prop) (t : Tag y) : impB false x (Shut y t) = y := by simp [impB, Shut]
theorem impB_intro {b : Bool} {x y : Prop} {t : Tag x} {t' : Tag y} (h : b = true → x) (h' : b = false → y) : impB b (Shut x t) (Shut y t') := ⟨h, h'⟩
theorem condF_intro {b : Bool} {x y : Prop} {t : Tag x} {t' : Tag y} (h : b = true → x) (h' : b = false → y) : condF (some (true, .bool b)) (Shut x t) (Shut y t') := ⟨h, h'⟩

def dstL : List Oper → Nat → Option Nat
  | [], _ => none
  | o :: r, j => if j = 0 then o.dst else dstL r (j - 1)
theorem dstL_spec : ∀ (l : List Oper) (j : Nat), (l[j]?).bind (·.dst) = dstL l j
  | [], j => by simp [dstL]
  | o :: r, 0 => by simp [dstL]
  | o :: r, j + 1 => by simp [dstL, ← dstL_spec r j]
def atL {α : Type} : List α → Nat → (α → Prop) → Prop
  | [], _, _ => False
  | o :: r, i, f => if i = 0 then f o else atL r (i - 1) f
theorem atL_spec {α : Type} (f : α → Prop) : ∀ (l : List α) (i : Nat), sel l[i]? f False = atL l i f
  | [], i => by simp [atL, sel]
  | o :: r, 0 => by simp [atL, sel]
  | o :: r, i + 1 => by simp [atL, ← atL_spec f r i]
@[go_sem] theorem dstL_cons (o : Oper) (r : List Oper) (t : Tag (o :: r)) (j : Nat) : dstL (Shut (o :: r) t) j = if j = 0 then o.dst else dstL (Shut (r) .mk) (j - 1) := nd rfl
@[go_sem] theorem atL_cons {α : Type} (o : α) (r : List α) (t : Tag (o :: r)) (i : Nat) (f : α → Prop) (t' : Tag f) : atL (Shut (o :: r) t) i (Shut f t') = ifB (i == 0) (Shut (f o) .mk) (Shut (atL (Shut (r) .mk) (i - 1) (Shut f t')) .mk) := by
  show (if i = 0 then f o else atL r (i - 1) f) = _
  by_cases h : i = 0
  · subst h; rfl
  · have : (i == 0) = false := by simp [h]
    rw [this, if_neg h]; rfl

@[go_sem] theorem gateE_some (want c y : Bool) : gateE want (some (c, .bool y)) = some (c && (y == want)) := nd rfl
@[go_sem] theorem gateE_off (want : Bool) (v : Value) : gateE want (some (false, v)) = some false := by cases v <;> first | rfl | simp [gateE]
@[go_sem] theorem gate_eq (l : List Oper) (t : Tag l.toArray) (j : Nat) (want : Bool) : gate (Shut l.toArray t) env (j, want) = gateE want ((dstL (Shut (l) .mk) j).bind (get env)) := by
  show gateE want (((l.toArray[j]?).bind (·.dst)).bind (get env)) = gateE want ((dstL l j).bind (get env))
  rw [← dstL_spec]; simp
@[go_sem] theorem bind_get (s : Nat) : (some s).bind (get env) = get env s := nd rfl
@[go_sem] theorem bind_look {α : Type} (l : List (Nat × α)) (s : Nat) : (some s).bind (look l) = look l s := nd rfl
@[go_sem] theorem bind_lookn {α : Type} (l : List (Nat × α)) : (none : Option Nat).bind (look l) = none := nd rfl
@[go_sem] theorem notV_bool (t : Bool) : notV (.bool t) = some (.bool (!t)) := nd rfl
@[go_sem] theorem pickV_bool (a b : Value) (t : Bool) : pickV a b (.bool t) = some (if t = true then a else b) := nd rfl
attribute [go_sem] binV onBool convV
@[go_sem] theorem pureOp_move (x : Operand) : pureOp P env (.move x) = some (rho env x) := nd rfl
@[go_sem] theorem pureOp_assign (x : Operand) : pureOp P env (.assign x) = some (rho env x) := nd rfl
@[go_sem] theorem pureOp_pick (c a b : Operand) : pureOp P env (.pick c a b) = pickV (rho env a) (rho env b) (rho env c) := nd rfl
@[go_sem] theorem pureOp_not (t : TypeId) (x : Operand) : pureOp P env (.unOp .not t x) = notV (rho env x) := nd rfl
@[go_sem] theorem pureOp_neg (t : TypeId) (x : Operand) : pureOp P env (.unOp .neg t x) = none := nd rfl
@[go_sem] theorem pureOp_bin (op : BinOp) (t t' : TypeId) (x y : Operand) : pureOp P env (.binOp op t x y t') = binV (P.underlying t) op (rho env x) (rho env y) := nd rfl
@[go_sem] theorem pureOp_convert (s t : TypeId) (x : Operand) : pureOp P env (.convert s t x) = convV (P.underlying s) (P.underlying t) (rho env x) := nd rfl
section
variable (t f : Nat) (x y : Operand)
@[go_sem] theorem pureOp_alloc : pureOp P env (.alloc t) = none := nd rfl
@[go_sem] theorem pureOp_box : pureOp P env (.box t x) = none := nd rfl
@[go_sem] theorem pureOp_build (a : Array (Nat × Operand)) : pureOp P env (.build t a) = none := nd rfl
@[go_sem] theorem pureOp_buildSlice (a : Array (Nat × Operand)) : pureOp P env (.buildSlice t f a) = none := nd rfl
@[go_sem] theorem pureOp_load : pureOp P env (.load t x) = none := nd rfl
@[go_sem] theorem pureOp_store : pureOp P env (.store t x y) = none := nd rfl
@[go_sem] theorem pureOp_nilCheck : pureOp P env (.nilCheck x) = none := nd rfl
@[go_sem] theorem pureOp_fieldAddr : pureOp P env (.fieldAddr t x f) = none := nd rfl
@[go_sem] theorem pureOp_field : pureOp P env (.field t x f) = none := nd rfl
@[go_sem] theorem pureOp_indexAddr : pureOp P env (.indexAddr t x y) = none := nd rfl
@[go_sem] theorem pureOp_index : pureOp P env (.index t x y) = none := nd rfl
@[go_sem] theorem pureOp_lookup (b : Bool) : pureOp P env (.lookup t x y b) = none := nd rfl
@[go_sem] theorem pureOp_mapUpdate (z : Operand) : pureOp P env (.mapUpdate t x y z) = none := nd rfl
@[go_sem] theorem pureOp_insert (z : Operand) : pureOp P env (.insert t x y z) = none := nd rfl
@[go_sem] theorem pureOp_extract : pureOp P env (.extract x f) = none := nd rfl
@[go_sem] theorem pureOp_call (c : Call) : pureOp P env (.call c) = none := nd rfl
@[go_sem] theorem pureOp_makeFunc (g : Fn) (a b : Array Operand) : pureOp P env (.makeFunc g a b) = none := nd rfl
@[go_sem] theorem pureOp_makeMap (z : Option Operand) : pureOp P env (.makeMap t z) = none := nd rfl
@[go_sem] theorem pureOp_makeSlice : pureOp P env (.makeSlice t x y) = none := nd rfl
@[go_sem] theorem pureOp_slice (a b c : Option Operand) : pureOp P env (.slice t x a b c) = none := nd rfl
@[go_sem] theorem pureOp_makeInterface : pureOp P env (.makeInterface t x) = none := nd rfl
@[go_sem] theorem pureOp_range : pureOp P env (.range t x) = none := nd rfl
@[go_sem] theorem pureOp_next (b : Bool) : pureOp P env (.next x b) = none := nd rfl
@[go_sem] theorem pureOp_entry : pureOp P env (.entry x) = none := nd rfl
@[go_sem] theorem pureOp_mapEntry : pureOp P env (.mapEntry t x y) = none := nd rfl
@[go_sem] theorem pureOp_entryStore (z : Operand) : pureOp P env (.entryStore t x y z) = none := nd rfl
end
attribute [go_sem] okOp okPick isLoad
@[go_sem] theorem notV_u (a : Array Value) : notV (.tuple a) = some undef := nd rfl
@[go_sem] theorem pickV_u (a b : Value) (u : Array Value) : pickV a b (.tuple u) = some undef := nd rfl
@[go_sem] theorem undef_eq : undef = .tuple #[] := nd rfl
@[go_sem] theorem okV_int (c : Bool) (k : IntKind) (n : Int) : okV c (.int k n) = True := nd rfl
@[go_sem] theorem okV_bool (c : Bool) (b : Bool) : okV c (.bool b) = True := nd rfl
@[go_sem] theorem okV_string (c : Bool) (b : ByteArray) : okV c (.string b) = True := nd rfl
@[go_sem] theorem okV_pointer (c : Bool) (b : Option Addr) : okV c (.pointer b) = True := nd rfl
@[go_sem] theorem okV_tuple (c : Bool) (b : Array Value) : okV c (.tuple b) = (c = false) := nd rfl
section
variable (t f : Nat) (x y z : Operand)
@[go_sem] theorem operands_alloc : (Op.alloc t).operands.toList = [] := nd rfl
@[go_sem] theorem operands_box : (Op.box t x).operands.toList = [x] := nd rfl
@[go_sem] theorem operands_load : (Op.load t x).operands.toList = [x] := nd rfl
@[go_sem] theorem operands_store : (Op.store t x y).operands.toList = [x, y] := nd rfl
@[go_sem] theorem operands_nilCheck : (Op.nilCheck x).operands.toList = [x] := nd rfl
@[go_sem] theorem operands_unOp (o : UnOp) : (Op.unOp o t x).operands.toList = [x] := nd rfl
@[go_sem] theorem operands_binOp (o : BinOp) : (Op.binOp o t x y f).operands.toList = [x, y] := nd rfl
@[go_sem] theorem operands_convert : (Op.convert t f x).operands.toList = [x] := nd rfl
@[go_sem] theorem operands_pick : (Op.pick x y z).operands.toList = [x, y, z] := nd rfl
@[go_sem] theorem operands_build (l : List (Nat × Operand)) : (Op.build t l.toArray).operands.toList = l.map (·.2) := by simp [Op.operands]
@[go_sem] theorem operands_buildSlice (l : List (Nat × Operand)) : (Op.buildSlice t f l.toArray).operands.toList = l.map (·.2) := by simp [Op.operands]
@[go_sem] theorem operands_fieldAddr : (Op.fieldAddr t x f).operands.toList = [x] := nd rfl
@[go_sem] theorem operands_field : (Op.field t x f).operands.toList = [x] := nd rfl
@[go_sem] theorem operands_indexAddr : (Op.indexAddr t x y).operands.toList = [x, y] := nd rfl
@[go_sem] theorem operands_index : (Op.index t x y).operands.toList = [x, y] := nd rfl
@[go_sem] theorem operands_lookup (b : Bool) : (Op.lookup t x y b).operands.toList = [x, y] := nd rfl
@[go_sem] theorem operands_mapUpdate : (Op.mapUpdate t x y z).operands.toList = [x, y, z] := nd rfl
@[go_sem] theorem operands_insert : (Op.insert t x y z).operands.toList = [x, y, z] := nd rfl
@[go_sem] theorem operands_mapEntry : (Op.mapEntry t x y).operands.toList = [x, y] := nd rfl
@[go_sem] theorem operands_entryStore : (Op.entryStore t x y z).operands.toList = [x, y, z] := nd rfl
@[go_sem] theorem operands_extract : (Op.extract x f).operands.toList = [x] := nd rfl
@[go_sem] theorem operands_call_v (l : List Operand) (ts : Array TypeId) : (Op.call { callee := .value x, args := l.toArray, argTypes := ts }).operands.toList = x :: l := by simp [Op.operands, Call.operands]
@[go_sem] theorem operands_call_b (b : Builtin) (l : List Operand) (ts : Array TypeId) : (Op.call { callee := .builtin b, args := l.toArray, argTypes := ts }).operands.toList = l := by simp [Op.operands, Call.operands]
@[go_sem] theorem operands_call_i (m : String) (l : List Operand) (ts : Array TypeId) : (Op.call { callee := .invoke x m, args := l.toArray, argTypes := ts }).operands.toList = x :: l := by simp [Op.operands, Call.operands]
@[go_sem] theorem operands_makeFunc (g : Fn) (a b : List Operand) : (Op.makeFunc g a.toArray b.toArray).operands.toList = a ++ b := by simp [Op.operands]
@[go_sem] theorem operands_makeMap : (Op.makeMap t none).operands.toList = [] := nd rfl
@[go_sem] theorem operands_makeMap1 : (Op.makeMap t (some x)).operands.toList = [x] := nd rfl
@[go_sem] theorem operands_makeSlice : (Op.makeSlice t x y).operands.toList = [x, y] := nd rfl
@[go_sem] theorem operands_slice (a b c : Option Operand) : (Op.slice t x a b c).operands.toList = x :: (a.toList ++ b.toList ++ c.toList) := by
  cases a <;> cases b <;> cases c <;> rfl
@[go_sem] theorem operands_makeInterface : (Op.makeInterface t x).operands.toList = [x] := nd rfl
@[go_sem] theorem operands_range : (Op.range t x).operands.toList = [x] := nd rfl
@[go_sem] theorem operands_next (b : Bool) : (Op.next x b).operands.toList = [x] := nd rfl
@[go_sem] theorem operands_entry : (Op.entry x).operands.toList = [x] := nd rfl
end
section
variable (A : Array Oper) (dst : Option Tmp) (op : Op) (ty : TypeId) (pos : String) (af : Array Edge) (j : Nat) (want : Bool)
@[go_sem] theorem op1_plain (k : Env → World → Prop) (t : Tag (⟨dst, op, ty, pos, af, none⟩ : Oper)) (t' : Tag k) :
    op1 P A (Shut ⟨dst, op, ty, pos, af, none⟩ t) env w (Shut k t') =
    sel (pureOp P env op) (Shut (fun v => okOp env true op ∧ k (put env dst true v) w) .mk)
      (Shut (okAll env true op.operands.toList ∧ upon P (Shut (fun v w' => k (put env dst true v) w') .mk) ((execOp (rho env) ⟨dst, op, ty, pos, af, none⟩).run P w)) .mk) := nd rfl
@[go_sem] theorem op1_guard (k : Env → World → Prop) (t : Tag (⟨dst, op, ty, pos, af, some (j, want)⟩ : Oper)) (t' : Tag k) :
    op1 P A (Shut ⟨dst, op, ty, pos, af, some (j, want)⟩ t) env w (Shut k t') =
    sel (gate A env (j, want)) (Shut (fun c => sel (pureOp P env op) (Shut (fun v => okOp env c op ∧ k (put env dst c v) w) .mk)
      (Shut (impB c (Shut (okAll env true op.operands.toList ∧ upon P (Shut (fun v w' => k (put env dst true v) w') .mk) ((execOp (rho env) ⟨dst, op, ty, pos, af, some (j, want)⟩).run P w)) .mk) (Shut (k (put env dst true undef) w) .mk)) .mk)) .mk) (Shut (False) .mk) := nd rfl
@[go_sem] theorem take1_plain (w0 : World) (k : Env → Prop) (t : Tag (⟨dst, op, ty, pos, af, none⟩ : Oper)) (t' : Tag k) :
    take1 P w0 A (Shut ⟨dst, op, ty, pos, af, none⟩ t) env (Shut k t') =
    sel (pureOp P env op) (Shut (fun v => okOp env true op ∧ k (put env dst true v)) .mk) (Shut (takeV P w0 (Shut (⟨dst, op, ty, pos, af, none⟩) .mk) env (Shut (fun v => k (put env dst true v)) .mk)) .mk) := nd rfl
@[go_sem] theorem take1_guard (w0 : World) (k : Env → Prop) (t : Tag (⟨dst, op, ty, pos, af, some (j, want)⟩ : Oper)) (t' : Tag k) :
    take1 P w0 A (Shut ⟨dst, op, ty, pos, af, some (j, want)⟩ t) env (Shut k t') =
    sel (gate A env (j, want)) (Shut (fun c => sel (pureOp P env op) (Shut (fun v => okOp env c op ∧ k (put env dst c v)) .mk)
      (Shut (impB c (Shut (takeV P w0 (Shut (⟨dst, op, ty, pos, af, some (j, want)⟩) .mk) env (Shut (fun v => k (put env dst true v)) .mk)) .mk) (Shut (k (put env dst true undef)) .mk)) .mk)) .mk) (Shut (False) .mk) := nd rfl
@[go_sem] theorem takeV_eq (w0 : World) (g : Option (Nat × Bool)) (k : Value → Prop) (t : Tag (⟨dst, op, ty, pos, af, g⟩ : Oper)) (t' : Tag k) :
    takeV P w0 (Shut ⟨dst, op, ty, pos, af, g⟩ t) env (Shut k t') =
    (okAll env true op.operands.toList ∧ ifB (isLoad op) (Shut (uponV (Shut (k) .mk) ((execOp (rho env) ⟨dst, op, ty, pos, af, g⟩).run P w0)) .mk) (Shut (uponAll (Shut (k) .mk) (fun w => (execOp (rho env) ⟨dst, op, ty, pos, af, g⟩).run P w)) .mk)) := nd rfl
@[go_sem] theorem ops_nil (K : Env → World → Prop) (t : Tag K) (t' : Tag ([] : List Oper)) : ops P A (Shut K t) (Shut [] t') env w = K env w := nd rfl
@[go_sem] theorem ops_cons (K : Env → World → Prop) (t : Tag K) (o : Oper) (r : List Oper) (t' : Tag (o :: r)) :
    ops P A (Shut K t) (Shut (o :: r) t') env w = op1 P A (Shut (o) .mk) env w (Shut (ops P A (Shut (K) .mk) (Shut (r) .mk)) .mk) := nd rfl
end
section
variable (w0 : World) (l : List Oper) (tl : Tag l.toArray) (K : Env → World → Prop) (tk : Tag K) (i : Nat) (p q : Plan)
@[go_sem] theorem planF_done (A : Array Oper) (t : Tag Plan.done) : planF P w0 A (Shut K tk) (Shut .done t) env w = K env w := nd rfl
@[go_sem] theorem planF_take (t : Tag (Plan.take i p)) : planF P w0 (Shut l.toArray tl) (Shut K tk) (Shut (.take i p) t) env w =
    atL (Shut (l) .mk) i (Shut (fun o => take1 P w0 (Shut (l.toArray) .mk) (Shut (o) .mk) env (Shut (fun env' => planF P w0 (Shut (l.toArray) .mk) (Shut (K) .mk) (Shut (p) .mk) env' w) .mk)) .mk) := by
  show sel (l.toArray[i]?) _ False = atL l i _
  rw [← atL_spec, List.getElem?_toArray]; rfl
@[go_sem] theorem planF_act (t : Tag (Plan.act i p)) : planF P w0 (Shut l.toArray tl) (Shut K tk) (Shut (.act i p) t) env w =
    atL (Shut (l) .mk) i (Shut (fun o => op1 P (Shut (l.toArray) .mk) (Shut (o) .mk) env w (Shut (keepW w0 (planF P w0 (Shut (l.toArray) .mk) (Shut (K) .mk) (Shut (p) .mk))) .mk)) .mk) := by
  show sel (l.toArray[i]?) _ False = atL l i _
  rw [← atL_spec, List.getElem?_toArray]; rfl
@[go_sem] theorem planF_fin (t : Tag (Plan.fin i p)) : planF P w0 (Shut l.toArray tl) (Shut K tk) (Shut (.fin i p) t) env w =
    atL (Shut (l) .mk) i (Shut (fun o => op1 P (Shut (l.toArray) .mk) (Shut (o) .mk) env w (Shut (planF P w0 (Shut (l.toArray) .mk) (Shut (K) .mk) (Shut (p) .mk)) .mk)) .mk) := by
  show sel (l.toArray[i]?) _ False = atL l i _
  rw [← atL_spec, List.getElem?_toArray]; rfl
@[go_sem] theorem planF_alt (t : Tag (Plan.alt i p q)) : planF P w0 (Shut l.toArray tl) (Shut K tk) (Shut (.alt i p q) t) env w =
    (atL (Shut (l) .mk) i (Shut (fun o => op1 P (Shut (l.toArray) .mk) (Shut (o) .mk) env w (Shut (keepW w0 (planF P w0 (Shut (l.toArray) .mk) (Shut (K) .mk) (Shut (p) .mk))) .mk)) .mk) ∧ planF P w0 (Shut (l.toArray) .mk) (Shut (K) .mk) (Shut (q) .mk) env w) := by
  show (sel (l.toArray[i]?) _ False ∧ _) = (atL l i _ ∧ _)
  rw [← atL_spec, List.getElem?_toArray]; rfl
@[go_sem ↓] theorem keepW_eq : keepW w0 K env w = (Agree w0 w ∧ K env w) := nd rfl
@[go_sem ↓] theorem keepW_app (A : Array Oper) (K : Env → World → Prop) (p : Plan) : keepW w0 (planF P w0 A K p) env w = (Agree w0 w ∧ planF P w0 A K p env w) := nd rfl
end
section
variable (Q : Exit → Env → World → Prop)
@[go_sem ↓] theorem thenQ_normal (k : Env → World → Prop) : thenQ k Q .normal env w = k env w := nd rfl
@[go_sem ↓] theorem thenQ_exit (k : Env → World → Prop) (i : Nat) : thenQ k Q (.exit i) env w = Q (.exit i) env w := nd rfl
@[go_sem ↓] theorem thenQ_goto (k : Env → World → Prop) (i : Nat) : thenQ k Q (.goto i) env w = Q (.goto i) env w := nd rfl
@[go_sem ↓] theorem thenQ_ret (k : Env → World → Prop) : thenQ k Q .ret env w = Q .ret env w := nd rfl
@[go_sem ↓] theorem blockQ_normal (id : Nat) : blockQ id Q .normal env w = Q .normal env w := nd rfl
@[go_sem ↓] theorem blockQ_exit (id i : Nat) : blockQ id Q (.exit i) env w = pickQ (i == id) (Shut (Q .normal env w) .mk) (Shut (Q (.exit i) env w) .mk) := nd rfl
@[go_sem ↓] theorem blockQ_goto (id i : Nat) : blockQ id Q (.goto i) env w = Q (.goto i) env w := nd rfl
@[go_sem ↓] theorem blockQ_ret (id : Nat) : blockQ id Q .ret env w = Q .ret env w := nd rfl
@[go_sem ↓] theorem noGotoQ_normal : noGotoQ Q .normal env w = Q .normal env w := nd rfl
@[go_sem ↓] theorem noGotoQ_exit (i : Nat) : noGotoQ Q (.exit i) env w = Q (.exit i) env w := nd rfl
@[go_sem ↓] theorem noGotoQ_ret : noGotoQ Q .ret env w = Q .ret env w := nd rfl
@[go_sem ↓] theorem gotoQ_normal (l : Nat) (J : Env → World → Prop) : gotoQ l J Q .normal env w = Q .normal env w := nd rfl
@[go_sem ↓] theorem gotoQ_exit (l i : Nat) (J : Env → World → Prop) : gotoQ l J Q (.exit i) env w = Q (.exit i) env w := nd rfl
@[go_sem ↓] theorem gotoQ_goto (l i : Nat) (J : Env → World → Prop) : gotoQ l J Q (.goto i) env w = pickQ (i == l) (Shut (J env w) .mk) (Shut (False) .mk) := nd rfl
@[go_sem ↓] theorem gotoQ_ret (l : Nat) (J : Env → World → Prop) : gotoQ l J Q .ret env w = Q .ret env w := nd rfl
end
@[go_sem ↓] theorem retQ_normal (rs : List ResultVar) (R : Ending → World → Prop) : retQ P rs R .normal env w = endF (get env 1000003) (Shut (fun w' => resF P env w' (Shut (rs) .mk) (Shut (fun vs => R (.returned (one vs)) w') .mk)) .mk) w := nd rfl
@[go_sem ↓] theorem retQ_ret (rs : List ResultVar) (R : Ending → World → Prop) : retQ P rs R .ret env w = endF (get env 1000003) (Shut (fun w' => resF P env w' (Shut (rs) .mk) (Shut (fun vs => R (.returned (one vs)) w') .mk)) .mk) w := nd rfl
@[go_sem] theorem endF_none (k : World → Prop) (t : Tag k) : endF none (Shut k t) w = k w := nd rfl
@[go_sem] theorem resF_nil (t : Tag ([] : List ResultVar)) (k : List Value → Prop) (t' : Tag k) : resF P env w (Shut [] t) (Shut k t') = k [] := nd rfl
@[go_sem] theorem resF_tmp (i : Nat) (r : List ResultVar) (t : Tag (.tmp i :: r)) (k : List Value → Prop) (t' : Tag k) :
    resF P env w (Shut (.tmp i :: r) t) (Shut k t') = (okE true (get env i) ∧ resF P env w (Shut (r) .mk) (Shut (fun vs => k (vOf (get env i) :: vs)) .mk)) := nd rfl
@[go_sem] theorem resF_cell (a : Nat) (ty : TypeId) (r : List ResultVar) (t : Tag (.cell a ty :: r)) (k : List Value → Prop) (t' : Tag k) :
    resF P env w (Shut (.cell a ty :: r) t) (Shut k t') = (okE true (get env a) ∧ uponR (Shut (fun v => resF P env w (Shut (r) .mk) (Shut (fun vs => k (v :: vs)) .mk)) .mk) ((Instr.loadAt ty (vOf (get env a))).run P w)) := nd rfl
@[go_sem] theorem one_one (v : Value) : one [v] = v := nd rfl
@[go_sem] theorem one_two (u v : Value) (r : List Value) : one (u :: v :: r) = .tuple (u :: v :: r).toArray := nd rfl
@[go_sem] theorem one_none : one [] = .tuple #[] := nd rfl
section
variable (x y : Code) (Q : Exit → Env → World → Prop) (tq : Tag Q)
@[go_sem] theorem code_skip (t : Tag Code.skip) : code P H rnd none (Shut .skip t) (Shut Q tq) env w = Q .normal env w := by simp only [code, Shut]
@[go_sem] theorem code_seq (t : Tag (Code.seq x y)) : code P H rnd none (Shut (.seq x y) t) (Shut Q tq) env w =
    ifB (isReg (Shut (x) .mk)) (Shut (code P H rnd none (Shut (x) .mk) (Shut (thenQ (code P H rnd none (Shut (y) .mk) (Shut (Q) .mk)) (Shut (Q) .mk)) .mk) env w) .mk)
      (Shut (sel ((firstReg (Shut (x) .mk)).bind (look H.joins)) (Shut (fun h => joinF h (fun K => code P H rnd none (Shut (x) .mk) (Shut (thenQ K (Shut (Q) .mk)) .mk)) (code P H rnd none (Shut (y) .mk) (Shut (Q) .mk)) env w) .mk) (Shut (code P H rnd none (Shut (x) .mk) (Shut (thenQ (code P H rnd none (Shut (y) .mk) (Shut (Q) .mk)) (Shut (Q) .mk)) .mk) env w) .mk)) .mk) := by simp only [code, Shut]
@[go_sem] theorem code_range (g : Operand) (ps : Array Tmp) (t : Tag (Code.rangeFunc g ps x y)) : code P H rnd none (Shut (.rangeFunc g ps x y) t) (Shut Q tq) env w =
    rangeF P rnd (ent env g) ps.toList (Shut (fun K => code P H true none (Shut (x) .mk) (Shut (thenQ K (Shut botQ .mk)) .mk)) .mk) (Shut (fun Q' => code P H true none (Shut (y) .mk) (Shut Q' .mk)) .mk) (Shut (Q) .mk) env w := by simp only [code, Shut]
@[go_sem] theorem isReg_range (g : Operand) (ps : Array Tmp) (t : Tag (Code.rangeFunc g ps x y)) : isReg (Shut (.rangeFunc g ps x y) t) = false := nd rfl
@[go_sem] theorem code_cond (c : Operand) (t : Tag (Code.cond c x y)) : code P H rnd none (Shut (.cond c x y) t) (Shut Q tq) env w = condF (ent env c) (Shut (code P H rnd none (Shut (x) .mk) (Shut (Q) .mk) env w) .mk) (Shut (code P H rnd none (Shut (y) .mk) (Shut (Q) .mk) env w) .mk) := by simp only [code, Shut]
@[go_sem] theorem code_block (id : Nat) (t : Tag (Code.block id x)) : code P H rnd none (Shut (.block id x) t) (Shut Q tq) env w = code P H rnd none (Shut (x) .mk) (Shut (blockQ id (Shut (Q) .mk)) .mk) env w := by simp only [code, Shut]
@[go_sem] theorem code_exit (id : Nat) (t : Tag (Code.exit id)) : code P H rnd none (Shut (.exit id) t) (Shut Q tq) env w = Q (.exit id) env w := by simp only [code, Shut]
@[go_sem] theorem code_ret (t : Tag Code.ret) : code P H rnd none (Shut .ret t) (Shut Q tq) env w = Q .ret env w := by simp only [code, Shut]
@[go_sem] theorem code_goto (l : Nat) (t : Tag (Code.goto l)) : code P H rnd none (Shut (.goto l) t) (Shut Q tq) env w = Q (.goto l) env w := by simp only [code, Shut]
@[go_sem] theorem code_label (l : Nat) (t : Tag (Code.label l)) : code P H rnd none (Shut (.label l) t) (Shut Q tq) env w = Q .normal env w := by simp only [code, Shut]
@[go_sem] theorem code_region (id : Nat) (A : Array Oper) (d : Bool) (t : Tag (Code.region id A d)) : code P H rnd none (Shut (.region id A d) t) (Shut Q tq) env w = regF P H id (Shut (A) .mk) d (Shut (Q .normal) .mk) env w := by simp only [code, Shut]
@[go_sem] theorem code_loop (t : Tag (Code.loop x)) : code P H rnd none (Shut (.loop x) t) (Shut Q tq) env w =
    sel ((firstReg (Shut (x) .mk)).bind (look H.loops)) (Shut (fun h => loopF h.carry h.keep (Shut (fun K => code P H rnd none (Shut (x) .mk) (Shut (thenQ K (Shut (Q) .mk)) .mk)) .mk) env w) .mk) (Shut (False) .mk) := by simp only [code, Shut]
@[go_sem] theorem code_scope (t : Tag (Code.scope x)) : code P H rnd none (Shut (.scope x) t) (Shut Q tq) env w = sel ((firstReg (Shut (x) .mk)).bind (look H.scopes))
      (Shut (fun h => ifB (hasL (Shut (x) .mk) h.1) (Shut (scopeF h.2.carry h.2.keep (Shut (fun K => code P H rnd none (Shut (x) .mk) (Shut (gotoQ h.1 K (Shut (Q) .mk)) .mk)) .mk) (Shut (fun K => code P H rnd (some h.1) (Shut (x) .mk) (Shut (gotoQ h.1 K (Shut (Q) .mk)) .mk)) .mk) env w) .mk) (Shut (False) .mk)) .mk)
      (Shut (code P H rnd none (Shut (x) .mk) (Shut (noGotoQ (Shut (Q) .mk)) .mk) env w) .mk) := by simp only [code, Shut]
@[go_sem] theorem code_from_seq (l : Nat) (t : Tag (Code.seq x y)) : code P H rnd (some l) (Shut (.seq x y) t) (Shut Q tq) env w =
    ifB (hasL (Shut (x) .mk) l) (Shut (code P H rnd (some l) (Shut (x) .mk) (Shut (thenQ (code P H rnd none (Shut (y) .mk) (Shut (Q) .mk)) (Shut (Q) .mk)) .mk) env w) .mk) (Shut (code P H rnd (some l) (Shut (y) .mk) (Shut (Q) .mk) env w) .mk) := by simp only [code, Shut]
@[go_sem] theorem code_from_label (l l' : Nat) (t : Tag (Code.label l')) : code P H rnd (some l) (Shut (.label l') t) (Shut Q tq) env w = ifB (l' == l) (Shut (Q .normal env w) .mk) (Shut (False) .mk) := by simp only [code, Shut]
section
variable (c : Operand) (id : Nat) (A : Array Oper) (d : Bool)
@[go_sem] theorem isReg_region (t : Tag (Code.region id A d)) : isReg (Shut (.region id A d) t) = true := nd rfl
@[go_sem] theorem isReg_seq (t : Tag (Code.seq x y)) : isReg (Shut (.seq x y) t) = false := nd rfl
@[go_sem] theorem isReg_cond (t : Tag (Code.cond c x y)) : isReg (Shut (.cond c x y) t) = false := nd rfl
@[go_sem] theorem isReg_block (t : Tag (Code.block id x)) : isReg (Shut (.block id x) t) = false := nd rfl
@[go_sem] theorem isReg_loop (t : Tag (Code.loop x)) : isReg (Shut (.loop x) t) = false := nd rfl
@[go_sem] theorem isReg_scope (t : Tag (Code.scope x)) : isReg (Shut (.scope x) t) = false := nd rfl
@[go_sem] theorem isReg_skip (t : Tag Code.skip) : isReg (Shut .skip t) = false := nd rfl
@[go_sem] theorem isReg_ret (t : Tag Code.ret) : isReg (Shut .ret t) = false := nd rfl
@[go_sem] theorem isReg_exit (t : Tag (Code.exit id)) : isReg (Shut (.exit id) t) = false := nd rfl
@[go_sem] theorem isReg_label (t : Tag (Code.label id)) : isReg (Shut (.label id) t) = false := nd rfl
@[go_sem] theorem isReg_goto (t : Tag (Code.goto id)) : isReg (Shut (.goto id) t) = false := nd rfl
def orElseN : Option Nat → Option Nat → Option Nat
  | some r, _ => some r
  | none, b => b
@[go_sem] theorem orElseN_some (r : Nat) (b : Option Nat) : orElseN (some r) b = some r := nd rfl
@[go_sem] theorem orElseN_none (b : Option Nat) : orElseN none b = b := nd rfl
@[go_sem] theorem firstReg_region (t : Tag (Code.region id A d)) : firstReg (Shut (.region id A d) t) = some id := nd rfl
@[go_sem] theorem firstReg_seq (t : Tag (Code.seq x y)) : firstReg (Shut (.seq x y) t) = orElseN (firstReg (Shut (x) .mk)) (firstReg (Shut (y) .mk)) := by
  show firstReg (.seq x y) = orElseN (firstReg x) (firstReg y)
  rw [firstReg]; cases firstReg x <;> rfl
@[go_sem] theorem firstReg_cond (t : Tag (Code.cond c x y)) : firstReg (Shut (.cond c x y) t) = orElseN (firstReg (Shut (x) .mk)) (firstReg (Shut (y) .mk)) := by
  show firstReg (.cond c x y) = orElseN (firstReg x) (firstReg y)
  rw [firstReg]; cases firstReg x <;> rfl
@[go_sem] theorem firstReg_block (t : Tag (Code.block id x)) : firstReg (Shut (.block id x) t) = firstReg (Shut (x) .mk) := nd rfl
@[go_sem] theorem firstReg_loop (t : Tag (Code.loop x)) : firstReg (Shut (.loop x) t) = firstReg (Shut (x) .mk) := nd rfl
@[go_sem] theorem firstReg_scope (t : Tag (Code.scope x)) : firstReg (Shut (.scope x) t) = firstReg (Shut (x) .mk) := nd rfl
@[go_sem] theorem firstReg_range (g : Operand) (ps : Array Tmp) (t : Tag (Code.rangeFunc g ps x y)) : firstReg (Shut (.rangeFunc g ps x y) t) = none := nd rfl
@[go_sem] theorem firstReg_skip (t : Tag Code.skip) : firstReg (Shut .skip t) = none := nd rfl
@[go_sem] theorem firstReg_ret (t : Tag Code.ret) : firstReg (Shut .ret t) = none := nd rfl
@[go_sem] theorem firstReg_exit (t : Tag (Code.exit id)) : firstReg (Shut (.exit id) t) = none := nd rfl
@[go_sem] theorem firstReg_label (t : Tag (Code.label id)) : firstReg (Shut (.label id) t) = none := nd rfl
@[go_sem] theorem firstReg_goto (t : Tag (Code.goto id)) : firstReg (Shut (.goto id) t) = none := nd rfl
@[go_sem] theorem hasL_seq (l : Nat) (t : Tag (Code.seq x y)) : hasL (Shut (.seq x y) t) l = (hasL (Shut (x) .mk) l || hasL (Shut (y) .mk) l) := nd rfl
@[go_sem] theorem hasL_label (l l' : Nat) (t : Tag (Code.label l')) : hasL (Shut (.label l') t) l = (l' == l) := nd rfl
@[go_sem] theorem hasL_region (l : Nat) (t : Tag (Code.region id A d)) : hasL (Shut (.region id A d) t) l = false := nd rfl
@[go_sem] theorem hasL_cond (l : Nat) (t : Tag (Code.cond c x y)) : hasL (Shut (.cond c x y) t) l = false := nd rfl
@[go_sem] theorem hasL_block (l : Nat) (t : Tag (Code.block id x)) : hasL (Shut (.block id x) t) l = false := nd rfl
@[go_sem] theorem hasL_loop (l : Nat) (t : Tag (Code.loop x)) : hasL (Shut (.loop x) t) l = false := nd rfl
@[go_sem] theorem hasL_scope (l : Nat) (t : Tag (Code.scope x)) : hasL (Shut (.scope x) t) l = false := nd rfl
@[go_sem] theorem hasL_range (l : Nat) (g : Operand) (ps : Array Tmp) (t : Tag (Code.rangeFunc g ps x y)) : hasL (Shut (.rangeFunc g ps x y) t) l = false := nd rfl
@[go_sem] theorem hasL_skip (l : Nat) (t : Tag Code.skip) : hasL (Shut .skip t) l = false := nd rfl
@[go_sem] theorem hasL_ret (l : Nat) (t : Tag Code.ret) : hasL (Shut .ret t) l = false := nd rfl
@[go_sem] theorem hasL_exit (l : Nat) (t : Tag (Code.exit id)) : hasL (Shut (.exit id) t) l = false := nd rfl
@[go_sem] theorem hasL_goto (l : Nat) (t : Tag (Code.goto id)) : hasL (Shut (.goto id) t) l = false := nd rfl
end
end
@[go_sem] theorem look_nil {α : Type} (t : Nat) : look ([] : List (Nat × α)) t = none := nd rfl
@[go_sem] theorem look_cons {α : Type} (s t : Nat) (e : α) (r : List (Nat × α)) : look ((s, e) :: r) t = if s = t then some e else look r t := nd rfl
section
variable (id : Nat) (l : List Oper) (A : Array Oper) (tl : Tag l.toArray) (ta : Tag A) (d : Bool) (K : Env → World → Prop) (tk : Tag K)
@[go_sem] theorem regF_eq : regF P H id (Shut A ta) d (Shut K tk) env w = sel (look H.rjoins id) (Shut (fun h => joinF h (reg0 P H id (Shut (A) .mk) d) K env w) .mk) (Shut (reg0 P H id (Shut (A) .mk) d (Shut (K) .mk) env w) .mk) := nd rfl
@[go_sem] theorem reg0_f : reg0 P H id (Shut l.toArray tl) false (Shut K tk) env w = ops P (Shut (l.toArray) .mk) (Shut (K) .mk) (Shut (l) .mk) env w := nd rfl
@[go_sem] theorem reg0_t : reg0 P H id (Shut A ta) true (Shut K tk) env w = drawF P H id (Shut (A) .mk) (Shut (K) .mk) env w := nd rfl
@[go_sem] theorem drawF_eq : drawF P H id (Shut A ta) (Shut K tk) env w =
  sel (look H.plans id) (Shut (fun p => planF P w (Shut (A) .mk) (Shut (K) .mk) (Shut (p) .mk) env w.drew) .mk) (Shut (sel (look H.blanks id) (Shut (fun p => blankF P (Shut (A) .mk) (Shut (K) .mk) (Shut (p) .mk) env w) .mk) (Shut (False) .mk)) .mk) := nd rfl
theorem blankF_intro {P : Program} {env : Env} {w : World} {A : Array Oper} {K : Env → World → Prop} {p : Plan} {ta : Tag A} {tk : Tag K} {tp : Tag p} (w0 : World) (h0 : Agree w0 w) (h : planF P w0 (Shut (A) .mk) (Shut (K) .mk) (Shut (p) .mk) env w.drew) :
    blankF P (Shut A ta) (Shut K tk) (Shut p tp) env w := ⟨w0, h0, h⟩
end
@[go_sem] theorem keepE_nil : keepE env [] = keep1 1000003 (get env 1000003) [] := nd rfl
@[go_sem] theorem keepE_cons (s : Nat) (r : List Nat) : keepE env (s :: r) = keep1 s (get env s) (keepE env r) := nd rfl
@[go_sem] theorem keep1_some (s : Nat) (e : Bool × Value) (l : Env) : keep1 s (some e) l = (s, e) :: l := nd rfl
@[go_sem] theorem keep1_none (s : Nat) (l : Env) : keep1 s none l = l := nd rfl
@[go_sem] theorem gets_nil : gets env [] = some [] := nd rfl
@[go_sem] theorem gets_cons (s : Nat) (r : List Nat) : gets env (s :: r) = consO (get env s) (gets env r) := nd rfl
@[go_sem] theorem consO_some (v : Value) (l : List Value) : consO (some (true, v)) (some l) = some (v :: l) := nd rfl
@[go_sem] theorem puts_cons (s : Nat) (ss : List Nat) (v : Value) (vs : List Value) : puts (s :: ss) (v :: vs) env = (s, (true, v)) :: puts ss vs env := nd rfl
@[go_sem] theorem puts_nil (vs : List Value) : puts [] vs env = env := nd rfl
@[go_sem] theorem argsE_nil (i : Nat) : argsE i [] = [] := nd rfl
@[go_sem] theorem argsE_cons (i : Nat) (v : Value) (r : List Value) : argsE i (v :: r) = (i, (true, v)) :: argsE (i + 1) r := nd rfl
end

/-! What a prover types where the way on stops. -/
section
variable {P : Program} {H : Hints} {env : Env} {w : World}
theorem calls_rx {f : FuncId} {fn : Func} {c : Code} {args : Array Value} {R : Ending → World → Prop} (H : Hints)
    (hf : P.funcs[f]? = some fn) (hb : fn.body = some c) (hm : P.follows .mixedOrders = true) (hc : (chk fn.ntmps H c && decide (args.size ≤ fn.ntmps) && decide (fn.ntmps ≤ 1000003)) = true)
    {rs : List ResultVar} (hr : fn.results = rs.toArray) (h : code P H false none (Shut (c) .mk) (Shut (retQ P rs R) .mk) (argsE 0 args.toList) w) : Calls P f args w R := by
  simp only [Bool.and_eq_true, decide_eq_true_eq] at hc
  exact calls_of_rx H hf hb hm hc.1.1 hc.1.2 hc.2 (by rw [hr]; exact h)

theorem loop_intro {σ : Type} (V : σ → List Value) (I : σ → World → Prop) (μ : σ → Nat) (g0 : σ) {env0 : Env} {carry keep : List Nat} {body : (Env → World → Prop) → Env → World → Prop} {tb : Tag body}
    (hk : keepE env keep = env0) (hg : gets env carry = some (V g0)) (h0 : I g0 w) (h : ∀ g w', I g w' → body (Shut (Back carry keep env0 V I μ (μ g)) .mk) (puts carry (V g) env0) w') : loopF carry keep (Shut body tb) env w :=
  ⟨σ, V, I, μ, g0, env0, hk, hg, h0, h⟩
theorem scope_intro {σ : Type} (V : σ → List Value) (I : σ → World → Prop) (μ : σ → Nat) (M : Nat) (env0 : Env) {carry keep : List Nat} {first body : (Env → World → Prop) → Env → World → Prop} {tf : Tag first} {tb : Tag body}
    (hf : first (Shut (Back carry keep env0 V I μ M) .mk) env w) (h : ∀ g w', I g w' → body (Shut (Back carry keep env0 V I μ (μ g)) .mk) (puts carry (V g) env0) w') : scopeF carry keep (Shut first tf) (Shut body tb) env w :=
  ⟨σ, V, I, μ, M, env0, hf, h⟩
theorem back_intro {σ : Type} {V : σ → List Value} {I : σ → World → Prop} {μ : σ → Nat} {m : Nat} {env0 : Env} {carry keep : List Nat} (g : σ) (hg : gets env carry = some (V g)) (hk : keepE env keep = env0) (hI : I g w) (hm : μ g < m) :
    Back carry keep env0 V I μ m env w := ⟨g, hg, hk, hI, hm⟩
theorem join_intro {σ : Type} (V : σ → List Value) (I : σ → World → Prop) {env0 : Env} {h : Hint} {x : (Env → World → Prop) → Env → World → Prop} {y : Env → World → Prop}
    (hk : keepE env h.keep = env0) (hx : x (Shut (Meet h.carry h.keep env0 V I) .mk) env w) (hy : ∀ g w', I g w' → y (puts h.carry (V g) env0) w') : joinF h x y env w := ⟨σ, V, I, env0, hk, hx, hy⟩
theorem meet_intro {σ : Type} {V : σ → List Value} {I : σ → World → Prop} {env0 : Env} {carry keep : List Nat} (g : σ) (hg : gets env carry = some (V g)) (hk : keepE env keep = env0) (hI : I g w) : Meet carry keep env0 V I env w := ⟨g, hg, hk, hI⟩
theorem end_intro {k : World → Prop} {t : Tag k} {d : Nat} {q : IntKind} {c : Bool} (hd : w.heap[d]? = some (.deferred (some []))) (hk : ∀ w', Step (fun k => k = d) w w' → k w') : endF (some (c, .int q (d : Int))) (Shut k t) w := ⟨hd, hk⟩
/-- A range over a function. D = w.heap.size: what is left among the deferred calls; D + 1: the loop's record. -/
theorem range_intro {α : Type} {gf : Nat} {lb : Array Value} {R : (Nat → Prop) → World → α → List Value → Prop} {xs : List α} {A0 : Nat → Prop} (hit : Iter P gf lb R xs A0 w) (heg : ∀ args w, (callFunc gf args).run P w = .ok (.enter gf args) w)
    (I : Nat → (Nat → Prop) → World → Prop) (E : Exit → World → Prop) {g : Option (Bool × Value)} {ps : List Nat} {asg : (Env → World → Prop) → Env → World → Prop} {body : (Exit → Env → World → Prop) → Env → World → Prop} {ta : Tag asg} {tb : Tag body}
    {Q : Exit → Env → World → Prop} {tq : Tag Q} (hm : get env 1000003 = none) (hg : g = some (true, .func (.func gf) #[] lb))
    (hIA : ∀ i A V, I i A V → ∀ k, A k → k < V.heap.size ∧ k ≠ w.heap.size ∧ k ≠ w.heap.size + 1)
    (hIs : ∀ i A V V', I i A V → Step (fun k => k = w.heap.size ∨ k = w.heap.size + 1) V V' → I i A V')
    (hEs : ∀ e V V', E e V → Step (fun k => k = w.heap.size ∨ k = w.heap.size + 1) V V' → E e V')
    (h0 : I 0 A0 w)
    (hround : ∀ i x A V vs, xs[i]? = some x → I i A V → R (fun k => A k ∨ k = w.heap.size ∨ k = w.heap.size + 1) V x vs → vs.length = ps.length ∧
      asg (Shut (fun env1 V1 => Step A V V1 ∧ ∀ V2, Step (fun k => k = w.heap.size + 1) V1 V2 → body (Shut (roundQ A V V2 (I (i + 1)) E) .mk) env1 V2) .mk) (puts ps vs env) V)
    (hdone : ∀ A V, I xs.length A V → V.heap[w.heap.size]? = some (.deferred (some [])) → Q .normal (markE w env) V)
    (hstop : ∀ e V, isJump e = true → E e V → V.heap[w.heap.size]? = some (.deferred (some [])) → Q e (markE w env) V) :
    rangeF P false g ps (Shut asg ta) (Shut body tb) (Shut Q tq) env w :=
  ⟨rfl, hm, gf, lb, α, R, xs, I, E, A0, hg, heg, hit, hIA, hIs, hEs, h0, hround, hdone, hstop⟩
@[go_sem] theorem markE_eq (env : Env) : markE w env = (1000003, (false, .int .i64 w.heap.size)) :: env := nd rfl
theorem ret_intro {k : Value → World → Prop} {v : Value} (h : k v w) : Ret k (.returned v) w := ⟨v, rfl, h⟩
end
end Go.Proofs.YtdfjfagljngciaaGreat.Rx
