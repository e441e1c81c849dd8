/- Effects: as they lie in memory, whether two are alike, and what a bare one is. -/
import Derived.Test.YthchaodakfnbbaaOwn
import Derived.Test.YthchaodakfnbbaaSl
import Derived.Test.YthchaodakfnbbaaHints
import Derived.Laws.BytesString
set_option linter.all false
namespace Go.Proofs.Ythchaodakfnbbaa
open Go.RowKit Rx

/-- A slice of one's own, read as one that came in. -/
theorem OwnS.recs {α β : Type} {w : World} {e : TypeId} {n : Nat} {v : Value} {k : Nat} (f : α → List Value) (hn : ∀ x, (f x).length = n) (h0 : 0 < n) (g : α → β) (R : World → β → List Value → Prop) {l : List α} (h : OwnS w e n v k (l.flatMap f)) (hk : k = l.length) (hR : ∀ x ∈ l, R w (g x) (f x)) :
    ∃ a c, v = .slice a l.length c ∧ l.length ≤ c ∧ SlAt R n w a (l.map g) := by
  subst hk
  obtain ⟨a, c, rfl, hc, -, hs⟩ := h.slice
  refine ⟨a, c, rfl, hc, fun hl => ?_⟩
  rw [List.length_map] at hl
  obtain ⟨b, off, rfl, hb, -, hcell, -⟩ := hs hl
  refine ⟨b, off, rfl, hb, fun i y hy => ?_⟩
  rw [List.getElem?_map] at hy
  obtain ⟨x, hx, rfl⟩ := Option.map_eq_some_iff.1 hy
  refine ⟨f x, hn x, hR x (List.mem_of_getElem? hx), fun j u hu => ?_⟩
  have hj : j < n := by have := (List.getElem?_eq_some_iff.1 hu).1; rw [hn] at this; exact this
  rw [Nat.add_assoc]
  exact hcell _ _ (by rw [rows_at f n hn h0 _ _ _ hj, hx]; exact hu)
theorem rows_drop {α : Type} (f : α → List Value) (n : Nat) (hn : ∀ x, (f x).length = n) : ∀ (i : Nat) (l : List α), (l.flatMap f).drop (i * n) = (l.drop i).flatMap f
  | 0, l => by simp
  | i + 1, [] => by simp
  | i + 1, x :: l => by
    rw [List.flatMap_cons, Nat.add_mul, Nat.one_mul, Nat.add_comm, ← List.drop_drop, List.drop_left' (hn x), rows_drop f n hn i l, List.drop_succ_cons]
theorem rows_take {α : Type} (f : α → List Value) (n : Nat) (hn : ∀ x, (f x).length = n) : ∀ (i : Nat) (l : List α), (l.flatMap f).take (i * n) = (l.take i).flatMap f
  | 0, l => by simp
  | i + 1, [] => by simp
  | i + 1, x :: l => by
    rw [List.flatMap_cons, List.take_append, List.take_of_length_le (by rw [hn, Nat.add_mul]; omega), hn, show (i + 1) * n - n = i * n from by rw [Nat.add_mul]; omega, rows_take f n hn i l, List.take_succ_cons, List.flatMap_cons]
theorem OwnS.cutL {α : Type} {w : World} {e : TypeId} {n : Nat} {v : Value} {k : Nat} (f : α → List Value) (hn : ∀ x, (f x).length = n) {l : List α} (h : OwnS w e n v k (l.flatMap f)) {i m : Nat} (hi : i ≤ m) (hm : m ≤ k) :
    ∃ a c, v = .slice a k c ∧ OwnS w e n (sliced a i m c n) (m - i) (((l.drop i).take (m - i)).flatMap f) ∧ ((sliced a i m c n).ownBlock = v.ownBlock) ∧ k ≤ c ∧ c ≤ maxLen := by
  obtain ⟨a, c, e, o, r⟩ := h.cut hi hm
  rw [rows_drop f n hn, rows_take f n hn] at o
  exact ⟨a, c, e, o, r⟩
/-- An effect, but its bytes. -/
structure Ef where
  kind : Int
  ino : Int
  dir : Int
  to : Int
  page : Int
  size : Int
  name : ByteArray
  other : ByteArray
  deriving DecidableEq
instance : Inhabited Ef := ⟨⟨0, 0, 0, 0, 0, 0, .empty, .empty⟩⟩
def Ef.enc (e : Ef) (d : Value) : List Value := [.int .i64 e.kind, .int .i64 e.ino, .int .i64 e.dir, .int .i64 e.to, .int .i64 e.page, .int .i64 e.size, .string e.name, .string e.other, d]
def Ef.val (e : Ef) (d : Value) : Value := .agg (e.enc d).toArray
/-- Bytes, behind a slice's address. -/
def RB (_ : World) (b : UInt8) (cs : List Value) : Prop := cs = [.int .u8 b.toNat]
structure Bytes (w : World) (d : Value) (l : List UInt8) : Prop where
  is : ∃ a c, d = .slice a l.length c ∧ SlAt RB 1 w a l
theorem Bytes.keep {w w' : World} {d : Value} {l : List UInt8} (h : Bytes w d l) (k : Keep w w') : Bytes w' d l := by
  obtain ⟨a, c, e, h⟩ := h
  exact ⟨a, c, e, h.keep k (fun _ _ q => q)⟩
theorem Bytes.none (w : World) : Bytes w (.slice none 0 0) [] := ⟨_, _, rfl, fun q => absurd q (by simp)⟩
def str (l : List UInt8) : ByteArray := ⟨l.toArray⟩

/-- Bytes as a string. -/
theorem run_bytes_string {P : Program} {w : World} {d : Value} {l : List UInt8} (h : Bytes w d l) {t s e : TypeId} (ht : P.underlying t = some (.slice e)) (hs : P.underlying s = some .string) (he : P.underlying e = some (.int .u8)) :
    (convert t s d).run P w = .ok (.string (str l)) w := by
  obtain ⟨a, c, rfl, h⟩ := h
  have hc : (Conv.bytesToString (.slice a l.length c)).run P w = .ok (.string (str l)) w := by
    have hfold : ∀ (l : List UInt8) (s : ByteArray), (l.map (fun x => (x.toNat : Int))).foldl (fun r n => r.push (UInt8.ofNat n.toNat)) s = ⟨s.data ++ l.toArray⟩ := by
      intro l
      induction l with
      | nil => intro s; simp
      | cons x r ih => intro s; rw [List.map_cons, List.foldl_cons, ih]; simp [ByteArray.push]
    cases a with
    | none =>
      have : l = [] := by
        cases l with
        | nil => rfl
        | cons x r => obtain ⟨_, _, e, _⟩ := h (by simp); cases e
      subst this; rfl
    | some ad =>
      have hl : (loadCells ad (l.map (fun x => (x.toNat : Int))).length).run P w = .ok ((l.map (fun x => (x.toNat : Int))).map (Value.int .u8)).toArray w := by
        have := run_loadCells_list (P := P) (w := w) ad ((l.map (fun x => (x.toNat : Int))).map (Value.int .u8)) (fun j u hu => ?_)
        · simpa using this
        · simp only [List.map_map, List.getElem?_map, Option.map_eq_some_iff] at hu
          obtain ⟨x, hx, rfl⟩ := hu
          obtain ⟨b, off, e, hb, hc⟩ := h (by have := (List.getElem?_eq_some_iff.1 hx).1; omega)
          cases e
          obtain ⟨cs, -, rfl, h3⟩ := hc j x hx
          simpa [Addr.add_mid] using h3 0 _ rfl
      rw [List.length_map] at hl
      rw [run_bytesToString w _ _ _ _ hl, hfold]
      simp [str]
  simp [convert, Sem.run_bind, run_underlying ht, run_underlying hs, run_underlying he, hc]
set_option maxRecDepth 100000 in
theorem sumpref09_Same (e e' : Ef) (d d' : Value) (l l' : List UInt8) (w : World) (hd : Bytes w d l) (hd' : Bytes w d' l') :
    Calls Try.prog 24 #[e.val d, e'.val d'] w fun r w' => r = .returned (.bool (decide (e = e' ∧ l = l'))) ∧ Keep w w' := by
  refine calls_rx h24 Try.func24 rfl Try.mixed (by kernel_rfl) Try.results24 ?_
  have hne : ¬ e = e' → decide (e = e' ∧ l = l') = false := fun h => by simp [h]
  by_cases h1 : e.kind = e'.kind; rotate_left
  · rw [hne (fun q => h1 (by rw [q]))]; unfold Ef.val Ef.enc; simp -dsimp [go_sem, h1]; exact ((Keep.refl w).alloc _).alloc _
  by_cases h2 : e.ino = e'.ino; rotate_left
  · rw [hne (fun q => h2 (by rw [q]))]; unfold Ef.val Ef.enc; simp -dsimp [go_sem, h1, h2]; exact ((Keep.refl w).alloc _).alloc _
  by_cases h3 : e.dir = e'.dir; rotate_left
  · rw [hne (fun q => h3 (by rw [q]))]; unfold Ef.val Ef.enc; simp -dsimp [go_sem, h1, h2, h3]; exact ((Keep.refl w).alloc _).alloc _
  by_cases h4 : e.to = e'.to; rotate_left
  · rw [hne (fun q => h4 (by rw [q]))]; unfold Ef.val Ef.enc; simp -dsimp [go_sem, h1, h2, h3, h4]; exact ((Keep.refl w).alloc _).alloc _
  by_cases h5 : e.page = e'.page; rotate_left
  · rw [hne (fun q => h5 (by rw [q]))]; unfold Ef.val Ef.enc; simp -dsimp [go_sem, h1, h2, h3, h4, h5]; exact ((Keep.refl w).alloc _).alloc _
  by_cases h6 : e.size = e'.size; rotate_left
  · rw [hne (fun q => h6 (by rw [q]))]; unfold Ef.val Ef.enc; simp -dsimp [go_sem, h1, h2, h3, h4, h5, h6]; exact ((Keep.refl w).alloc _).alloc _
  by_cases h7 : e.name = e'.name; rotate_left
  · rw [hne (fun q => h7 (by rw [q]))]; unfold Ef.val Ef.enc; simp -dsimp [go_sem, h1, h2, h3, h4, h5, h6, h7]; exact ((Keep.refl w).alloc _).alloc _
  by_cases h8 : e.other = e'.other; rotate_left
  · rw [hne (fun q => h8 (by rw [q]))]; unfold Ef.val Ef.enc; simp -dsimp [go_sem, h1, h2, h3, h4, h5, h6, h7, h8]; exact ((Keep.refl w).alloc _).alloc _
  have c1 : ∀ o o', (convert 51 9 d).run Try.prog ((w.alloc o).alloc o') = .ok (.string (str l)) ((w.alloc o).alloc o') := fun o o' => run_bytes_string (hd.keep (((Keep.refl w).alloc o).alloc o')) Try.underlying51 Try.underlying9 Try.underlying5
  have c2 : ∀ o o', (convert 51 9 d').run Try.prog ((w.alloc o).alloc o') = .ok (.string (str l')) ((w.alloc o).alloc o') := fun o o' => run_bytes_string (hd'.keep (((Keep.refl w).alloc o).alloc o')) Try.underlying51 Try.underlying9 Try.underlying5
  have he : e = e' := by cases e; cases e'; simp at *; simp [*]
  unfold Ef.val Ef.enc
  simp -dsimp [go_sem, h1, h2, h3, h4, h5, h6, h7, h8, c1, c2]
  exact ⟨by simp [he, str], ((Keep.refl w).alloc _).alloc _⟩

/-- Effects with their bytes. -/
structure Eff where
  e : Ef
  data : List UInt8
  deriving DecidableEq
instance : Inhabited Eff := ⟨⟨default, []⟩⟩
def RE (w : World) (x : Eff) (cs : List Value) : Prop := ∃ d, cs = x.e.enc d ∧ Bytes w d x.data
theorem RE.keep {w w' : World} (k : Keep w w') (x : Eff) (cs : List Value) (h : RE w x cs) : RE w' x cs := by
  obtain ⟨d, e, h⟩ := h
  exact ⟨d, e, h.keep k⟩
theorem SlAt.keepE {w w' : World} {a : Option Addr} {l : List Eff} (h : SlAt RE 9 w a l) (k : Keep w w') : SlAt RE 9 w' a l := h.keep k (RE.keep k)
/-- One of them, cell by cell. -/
theorem SlAt.eff {w : World} {a : Option Addr} {l : List Eff} (h : SlAt RE 9 w a l) {i : Nat} {x : Eff} (hx : l[i]? = some x) : ∃ b off d, a = some ⟨b, off, none⟩ ∧ b < w.heap.size ∧ Bytes w d x.data ∧
    w.cell? ⟨b, off + i * 9, none⟩ = some (.int .i64 x.e.kind) ∧ w.cell? ⟨b, off + i * 9 + 1, none⟩ = some (.int .i64 x.e.ino) ∧ w.cell? ⟨b, off + i * 9 + 2, none⟩ = some (.int .i64 x.e.dir) ∧
    w.cell? ⟨b, off + i * 9 + 3, none⟩ = some (.int .i64 x.e.to) ∧ w.cell? ⟨b, off + i * 9 + 4, none⟩ = some (.int .i64 x.e.page) ∧ w.cell? ⟨b, off + i * 9 + 5, none⟩ = some (.int .i64 x.e.size) ∧
    w.cell? ⟨b, off + i * 9 + 6, none⟩ = some (.string x.e.name) ∧ w.cell? ⟨b, off + i * 9 + 7, none⟩ = some (.string x.e.other) ∧ w.cell? ⟨b, off + i * 9 + 8, none⟩ = some d := by
  obtain ⟨b, off, rfl, hb, hc⟩ := h (by have := (List.getElem?_eq_some_iff.1 hx).1; omega)
  obtain ⟨cs, -, ⟨d, rfl, hd⟩, h3⟩ := hc i x hx
  exact ⟨b, off, d, rfl, hb, hd, h3 0 _ rfl, h3 1 _ rfl, h3 2 _ rfl, h3 3 _ rfl, h3 4 _ rfl, h3 5 _ rfl, h3 6 _ rfl, h3 7 _ rfl, h3 8 _ rfl⟩

theorem sumpref09_SameAll (a a' : Option Addr) (l l' : List Eff) (c c' : Nat) (w : World) (hl : SlAt RE 9 w a l) (hl' : SlAt RE 9 w a' l') (hm : l.length ≤ maxLen) (hm' : l'.length ≤ maxLen) :
    Calls Try.prog 29 #[.slice a l.length c, .slice a' l'.length c'] w fun r w' => r = .returned (.bool (decide (l = l'))) ∧ Keep w w' := by
  unfold maxLen at hm hm'
  refine calls_rx h29 Try.func29 rfl Try.mixed (by kernel_rfl) Try.results29 ?_
  by_cases h0 : l.length = l'.length; rotate_left
  · have h1 : ¬ (l.length : Int) = l'.length := by omega
    have h2 : ¬ l = l' := fun q => h0 (by rw [q])
    simp -dsimp [go_sem, h0, h1, h2]
    exact Keep.refl w
  have h1 : (l.length : Int) = l'.length := by omega
  simp -dsimp [go_sem, h0, h1]
  refine loop_intro (σ := Nat) (fun i => [.int .i64 i]) (fun i w' => i ≤ l.length ∧ Keep w w' ∧ ∀ k < i, l[k]? = l'[k]?) (fun i => l.length - i) 0 (by simp -dsimp [go_sem]; rfl) (by simp -dsimp [go_sem]) ⟨by simp, Keep.refl w, by simp⟩ ?_
  rintro i w1 ⟨hi, k1, hk⟩
  simp -dsimp [go_sem]
  refine condF_intro (fun g1 => ?_) (fun g1 => ?_)
  · simp at g1
    have hx : l[i]? = some l[i] := List.getElem?_eq_getElem _
    generalize l[i] = x at hx
    have hy : l'[i]? = some (l'[i]'(by omega)) := List.getElem?_eq_getElem _
    generalize l'[i]'_ = y at hy
    obtain ⟨b, off, d, rfl, hb, hd, c0, c1, c2, c3, c4, c5, c6, c7, c8⟩ := (hl.keepE k1).eff hx
    obtain ⟨b', off', d', rfl, hb', hd', e0, e1, e2, e3, e4, e5, e6, e7, e8⟩ := (hl'.keepE k1).eff hy
    have i2 : (i : Int) < l.length := by omega
    have i3 : (i : Int) < l'.length := by omega
    simp -dsimp [go_sem, i2, i3, hb, hb', c0, c1, c2, c3, c4, c5, c6, c7, c8, e0, e1, e2, e3, e4, e5, e6, e7, e8]
    refine (sumpref09_Same x.e y.e d d' x.data y.data _ (hd.keep (keep_drew _)) (hd'.keep (keep_drew _))).mono ?_; rintro e w2 ⟨rfl, k2⟩; refine ret_intro ?_
    by_cases hxy : x.e = y.e ∧ x.data = y.data
    · simp -dsimp [go_sem, hxy]
      refine ⟨Keep.agree (Keep.trans (keep_drew _) k2) (fun _ _ h _ => h), ?_⟩
      simp -dsimp (disch := omega) only [IntWalk.i64_in, IntWalk.u64_in, IntWalk.u8_in]
      refine back_intro (i + 1) (by simp -dsimp [go_sem]) (by simp -dsimp [go_sem]) ⟨by omega, Keep.trans k1.drew k2, fun k hk' => ?_⟩ (by omega)
      by_cases hki : k = i
      · subst hki; rw [hx, hy]; cases x; cases y; simp at hxy; simp [hxy]
      · exact hk k (by omega)
    · have h2 : ¬ l = l' := fun q => hxy (by rw [q, hy] at hx; cases hx; exact ⟨rfl, rfl⟩)
      simp -dsimp [go_sem, hxy, h2]
      exact ⟨Keep.agree (Keep.trans (keep_drew _) k2) (fun _ _ h _ => h), Keep.trans k1.drew k2⟩
  · simp at g1
    have h2 : l = l' := List.ext_getElem? fun j => by
      by_cases hj : j < i
      · exact hk j hj
      · rw [List.getElem?_eq_none (by omega), List.getElem?_eq_none (by omega)]
    simp -dsimp [go_sem, h2]
    exact k1

theorem sumplaw09_Few (a : Option Addr) (l : List Eff) (c : Nat) (w : World) (hl : SlAt RE 9 w a l) (hm : l.length ≤ maxLen) :
    Calls Try.prog 20 #[.slice a l.length c] w fun r w' => ∃ b, r = .returned (.bool b) ∧ (b = true → l.length ≤ 30 ∧ ∀ x ∈ l, x.data.length ≤ 300 ∧ x.e.name.size ≤ 100 ∧ x.e.other.size ≤ 100) ∧ Keep w w' := by
  unfold maxLen at hm
  refine calls_rx h20 Try.func20 rfl Try.mixed (by kernel_rfl) Try.results20 ?_
  simp -dsimp [go_sem]
  refine loop_intro (σ := Nat) (fun i => [.int .i64 i]) (fun i w' => i ≤ l.length ∧ Keep w w' ∧ ∀ k < i, ∀ x, l[k]? = some x → x.data.length ≤ 300 ∧ x.e.name.size ≤ 100 ∧ x.e.other.size ≤ 100) (fun i => l.length - i) 0 (by simp -dsimp [go_sem]; rfl) (by simp -dsimp [go_sem]) ⟨by simp, Keep.refl w, by simp⟩ ?_
  rintro i w1 ⟨hi, k1, hk⟩
  simp -dsimp [go_sem]
  refine condF_intro (fun g1 => ?_) (fun g1 => ?_)
  · simp at g1
    have hx : l[i]? = some l[i] := List.getElem?_eq_getElem _
    generalize l[i] = x at hx
    obtain ⟨b, off, d, rfl, hb, ⟨da, dc, rfl, hd⟩, c0, c1, c2, c3, c4, c5, c6, c7, c8⟩ := (hl.keepE k1).eff hx
    have i2 : (i : Int) < l.length := by omega
    by_cases q1 : 300 < x.data.length
    · have q1' : 300 < (x.data.length : Int) := by omega
      simp -dsimp [go_sem, i2, hb, c0, c1, c2, c3, c4, c5, c6, c7, c8, q1, q1']
      exact k1.alloc _
    by_cases q2 : 100 < x.e.name.size
    · have q1' : ¬ 300 < (x.data.length : Int) := by omega
      have q2' : 100 < (x.e.name.size : Int) := by omega
      simp -dsimp [go_sem, i2, hb, c0, c1, c2, c3, c4, c5, c6, c7, c8, q1, q1', q2, q2']
      exact k1.alloc _
    by_cases q3 : 100 < x.e.other.size
    · have q1' : ¬ 300 < (x.data.length : Int) := by omega
      have q2' : ¬ 100 < (x.e.name.size : Int) := by omega
      have q3' : 100 < (x.e.other.size : Int) := by omega
      simp -dsimp [go_sem, i2, hb, c0, c1, c2, c3, c4, c5, c6, c7, c8, q1, q1', q2, q2', q3, q3']
      exact k1.alloc _
    have q1' : ¬ 300 < (x.data.length : Int) := by omega
    have q2' : ¬ 100 < (x.e.name.size : Int) := by omega
    have q3' : ¬ 100 < (x.e.other.size : Int) := by omega
    simp -dsimp [go_sem, i2, hb, c0, c1, c2, c3, c4, c5, c6, c7, c8, q1, q1', q2, q2', q3, q3']
    simp -dsimp (disch := omega) only [IntWalk.i64_in, IntWalk.u64_in, IntWalk.u8_in]
    refine back_intro (i + 1) (by simp -dsimp [go_sem]) (by simp -dsimp [go_sem]) ⟨by omega, k1.alloc _, fun k hk' => ?_⟩ (by omega)
    by_cases hki : k = i
    · subst hki; intro y hy; rw [hx] at hy; cases hy; omega
    · exact hk k (by omega)
  · simp at g1
    simp -dsimp [go_sem]
    refine ⟨fun q => ⟨by omega, fun x hx => ?_⟩, k1⟩
    obtain ⟨j, hj, rfl⟩ := List.mem_iff_getElem.1 hx
    exact hk j (by omega) _ (List.getElem?_eq_getElem _)

theorem effect_Bare (e : Ef) (d : Value) (w : World) :
    Calls Try.prog 32 #[e.val d] w fun r w' => r = .returned (e.val (.slice none 0 0)) ∧ Keep w w' := by
  refine calls_rx h32 Try.func32 rfl Try.mixed (by kernel_rfl) Try.results32 ?_
  unfold Ef.val Ef.enc
  simp -dsimp [go_sem]
  exact (keep_alloc w _).alloc _
theorem effect_Touches (e : Ef) (d : Value) (ino : Int) (w : World) :
    Calls Try.prog 33 #[e.val d, .int .i64 ino] w fun r w' => r = .returned (.bool (decide (e.ino = ino))) ∧ Keep w w' := by
  refine calls_rx h33 Try.func33 rfl Try.mixed (by kernel_rfl) Try.results33 ?_
  unfold Ef.val Ef.enc
  simp -dsimp [go_sem]
  exact keep_alloc w _
end Go.Proofs.Ythchaodakfnbbaa
