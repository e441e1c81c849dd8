/- What is read of a node's words is the node, in plain Lean. -/
import Derived.Test.YtdfjfagljngciaaGreatGet
import Derived.Test.YtdfjfagljngciaaGreatImg
set_option linter.all false
set_option maxRecDepth 100000
set_option maxHeartbeats 4000000
namespace Go.Proofs.YtdfjfagljngciaaGreat
open Go.RowKit Rx

/-- A number that a reader takes. -/
def NumOk (n : Int) : Prop := 0 ≤ n ∧ n ≤ 4611686018427387904
theorem u64I_toNat {n : Int} (h : NumOk n) : ((u64I n).toNat : Int) = n := by
  obtain ⟨h1, h2⟩ := h
  unfold u64I
  rw [UInt64.toNat_ofNat', Nat.mod_eq_of_lt (by omega)]
  omega
theorem numP_cons {n : Int} (h : NumOk n) (r : List UInt64) : numP (u64I n :: r, false) = (n, (r, false)) := by
  have h1 := u64I_toNat h
  obtain ⟨h2, h3⟩ := h
  have hn : numR (u64I n :: r) false = (n, r, false) := by
    unfold numR
    rw [if_neg (by decide)]
    simp only
    rw [if_neg (by omega), h1]
  show ((numR (u64I n :: r) false).1, (numR (u64I n :: r) false).2) = _
  rw [hn]
theorem seqR_cons' : ∀ (m : Nat) (l : List Int), l.length = m → (∀ x ∈ l, NumOk x) → ∀ (r : List UInt64), seqR m (l.map u64I ++ r, false) = (l, (r, false))
  | 0, l, hl, _, r => by
    have : l = [] := List.length_eq_zero_iff.1 hl
    subst this; rfl
  | m + 1, l, hl, h, r => by
    have hne : l ≠ [] := fun q => by rw [q] at hl; simp at hl
    have hd := List.dropLast_concat_getLast hne
    generalize l.dropLast = d at hd
    generalize l.getLast hne = x at hd
    subst hd
    have h1 := seqR_cons' m d (by simpa using hl) (fun y hy => h y (List.mem_append_left _ hy)) (u64I x :: r)
    have e1 : (d ++ [x]).map u64I ++ r = d.map u64I ++ (u64I x :: r) := by simp
    rw [seqR, e1, h1]
    simp only
    rw [numP_cons (h x (by simp))]
theorem seqR_cons (l : List Int) (h : ∀ x ∈ l, NumOk x) (r : List UInt64) : seqR l.length (l.map u64I ++ r, false) = (l, (r, false)) := seqR_cons' _ l rfl h r
theorem pagesR_cons : ∀ (l : List Int), (∀ x ∈ l, NumOk x) → ∀ (r : List UInt64), pagesR l.length (l.map u64I ++ r, false) = (l, (r, false))
  | [], _, r => rfl
  | x :: l, h, r => by
    have ih := pagesR_cons l (fun y hy => h y (List.mem_cons_of_mem _ hy)) r
    rw [List.length_cons, pagesR, if_neg (by simp), List.map_cons, List.cons_append, numP_cons (h x (List.mem_cons_self ..))]
    simp only
    rw [ih]
theorem leN_digit : ∀ (l : List UInt8) (r : Nat) (x : UInt8), l[r]? = some x → leN l / 256 ^ r % 256 = x.toNat
  | [], r, x, h => by simp at h
  | y :: l, 0, x, h => by
    simp at h
    subst h
    have := y.toNat_lt
    rw [leN, Nat.pow_zero, Nat.div_one]
    omega
  | y :: l, r + 1, x, h => by
    simp at h
    have ih := leN_digit l r x h
    have := y.toNat_lt
    rw [leN, Nat.pow_succ, Nat.mul_comm (256 ^ r) 256, ← Nat.div_div_eq_div_mul, show (y.toNat + 256 * leN l) / 256 = leN l from by omega]
    exact ih
theorem byteL_pack (l : List UInt8) (i : Nat) (x : UInt8) (hx : l[i]? = some x) : byteL (packL l) i = x := by
  have hi := (List.getElem?_eq_some_iff.1 hx).1
  unfold byteL
  rw [packL_at (by omega), Option.getD_some, UInt64.toNat_ofNat', Nat.mod_eq_of_lt (chunk_lt l (i / 8))]
  have hc : (chunkL l (i / 8))[i % 8]? = some x := by
    unfold chunkL
    rw [List.getElem?_take_of_lt (by omega), List.getElem?_drop, show 8 * (i / 8) + i % 8 = i from by omega]
    exact hx
  have := leN_digit _ _ _ hc
  apply UInt8.toNat.inj
  rw [UInt8.toNat_ofNat']
  exact this
theorem unpack_pack (l : List UInt8) : unpackL (packL l) l.length = l := by
  apply List.ext_getElem?
  intro i
  by_cases hi : i < l.length
  · have hx : l[i]? = some l[i] := List.getElem?_eq_getElem hi
    unfold unpackL
    rw [List.getElem?_map, List.getElem?_range hi, hx]
    simp only [Option.map_some]
    rw [byteL_pack l i _ hx]
  · rw [List.getElem?_eq_none (by rw [unpackL_len]; omega), List.getElem?_eq_none (by omega)]
theorem textP_cons (t : ByteArray) (ht : t.size ≤ 24) (r : List UInt64) : textP (UInt64.ofNat t.size :: packL t.data.toList ++ r, false) = (t.data.toList, (r, false)) := by
  have hlen : t.data.toList.length = t.size := by simp
  have hn : numR (UInt64.ofNat t.size :: (packL t.data.toList ++ r)) false = ((t.size : Int), packL t.data.toList ++ r, false) := by
    have h1 : (UInt64.ofNat t.size).toNat = t.size := by rw [UInt64.toNat_ofNat', Nat.mod_eq_of_lt (by omega)]
    unfold numR
    rw [if_neg (by decide)]
    simp only
    rw [if_neg (by omega), h1]
  have hK : (needW t.size).toNat = (packL t.data.toList).length := by
    have := needW_len t.data.toList
    rw [hlen] at this
    omega
  unfold textP textR
  simp only [List.cons_append, hn, Int.toNat_natCast, hK]
  rw [if_neg (by simp; omega), if_neg (by rw [List.length_append]; omega), List.take_left, List.drop_left]
  have hu : unpackL (packL t.data.toList) t.size = t.data.toList := by rw [← hlen]; exact unpack_pack _
  rw [if_pos (by
    unfold unpackB
    rw [hu, decide_eq_true rfl, Bool.and_true, decide_eq_true_eq]
    have := needW_len t.data.toList
    rw [hlen] at this
    exact this), hu]
theorem namesR_cons : ∀ (l : List Entry), (∀ x ∈ l, x.name.size ≤ 24 ∧ NumOk x.ino) → ∀ (r : List UInt64), namesR l.length (l.flatMap nameW ++ r, false) = (l, (r, false))
  | [], _, r => rfl
  | x :: l, h, r => by
    have ih := namesR_cons l (fun y hy => h y (List.mem_cons_of_mem _ hy)) r
    obtain ⟨h1, h2⟩ := h x (List.mem_cons_self ..)
    rw [List.length_cons, namesR, if_neg (by simp), List.flatMap_cons]
    have ht := textP_cons x.name h1 (u64I x.ino :: (l.flatMap nameW ++ r))
    rw [show (nameW x ++ l.flatMap nameW ++ r) = UInt64.ofNat x.name.size :: packL x.name.data.toList ++ (u64I x.ino :: (l.flatMap nameW ++ r)) from by unfold nameW; simp, ht]
    simp only
    rw [numP_cons h2]
    simp only
    rw [ih]
/-- What a node is whose words are read so. -/
structure RdOk (n : Node) : Prop where
  h : ∀ x ∈ headN n, NumOk x
  p : ∀ x ∈ n.pages, NumOk x
  e : ∀ x ∈ n.names, x.name.size ≤ 24 ∧ NumOk x.ino
  lp : n.pages.length ≤ 64
  ln : n.names.length ≤ 65536
theorem getR_node {n : Node} (h : RdOk n) (r : List UInt64) : getR (nodeW n ++ r, false) = (n, (r, false)) := by
  have h7 := seqR_cons (headN n) h.h (n.pages.map u64I ++ (n.names.flatMap nameW ++ r))
  have e7 : (nodeW n ++ r) = (headN n).map u64I ++ (n.pages.map u64I ++ (n.names.flatMap nameW ++ r)) := by unfold nodeW; simp
  rw [e7]
  rw [show (headN n).length = 7 from rfl] at h7
  unfold getR headV
  simp only
  rw [h7]
  simp only [headN, List.getD_cons_zero, List.getD_cons_succ]
  have lp := h.lp
  have ln := h.ln
  rw [show (min (n.pages.length : Int) 64).toNat = n.pages.length from by omega, pagesR_cons n.pages h.p]
  simp only
  rw [show (min (n.names.length : Int) 65536).toNat = n.names.length from by omega, namesR_cons n.names h.e]
def nodesR : Nat → Rd → List Node × Rd
  | 0, s => ([], s)
  | m + 1, s => if s.2 = true then ([], s) else ((getR s).1 :: (nodesR m (getR s).2).1, (nodesR m (getR s).2).2)
theorem nodesR_cons : ∀ (l : List Node), (∀ n ∈ l, RdOk n) → ∀ (r : List UInt64), nodesR l.length (l.flatMap nodeW ++ r, false) = (l, (r, false))
  | [], _, r => rfl
  | n :: l, h, r => by
    have ih := nodesR_cons l (fun y hy => h y (List.mem_cons_of_mem _ hy)) r
    rw [List.length_cons, nodesR, if_neg (by simp), List.flatMap_cons, List.append_assoc, getR_node (h n (List.mem_cons_self ..))]
    simp only
    rw [ih]
end Go.Proofs.YtdfjfagljngciaaGreat
