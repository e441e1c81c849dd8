/- A path and its pieces, in plain Lean: what strings.Split gives at one byte. -/
import Derived.Test.YtdfjfagljngciaaGreatDoorNam
import Derived.Lib.SplitLaws
set_option linter.all false
set_option maxRecDepth 100000
set_option maxHeartbeats 4000000
namespace Go.Proofs.YtdfjfagljngciaaGreatDoor
open Go.RowKit Rx

def cutB : List UInt8 → List (List UInt8)
  | [] => [[]]
  | b :: r => if b = 47 then [] :: cutB r else match cutB r with | x :: xs => (b :: x) :: xs | [] => [[b]]
theorem cutB_no : ∀ (p : List UInt8), (47 : UInt8) ∉ p → cutB p = [p]
  | [], _ => rfl
  | b :: p, h => by
    have hb : ¬ b = 47 := fun q => h (q ▸ List.mem_cons_self)
    unfold cutB
    rw [if_neg hb, cutB_no p (fun q => h (List.mem_cons_of_mem _ q))]
theorem cutB_at : ∀ (p r : List UInt8), (47 : UInt8) ∉ p → cutB (p ++ 47 :: r) = p :: cutB r
  | [], r, _ => by simp [cutB]
  | b :: p, r, h => by
    have hb : ¬ b = 47 := fun q => h (q ▸ List.mem_cons_self)
    have ih := cutB_at p r (fun q => h (List.mem_cons_of_mem _ q))
    rw [List.cons_append, cutB, if_neg hb, ih]
theorem index_at : ∀ (p r : List UInt8), (47 : UInt8) ∉ p → Lib.index (p ++ 47 :: r) [47] = p.length
  | [], r, _ => by simp [Lib.index, List.isPrefixOf]
  | b :: p, r, h => by
    have hb : ¬ (47 : UInt8) = b := fun q => h (q ▸ List.mem_cons_self)
    have ih := index_at p r (fun q => h (List.mem_cons_of_mem _ q))
    rw [List.cons_append]
    unfold Lib.index
    have h1 : (List.isPrefixOf [47] (b :: (p ++ 47 :: r))) = false := by simp [List.isPrefixOf, hb]
    rw [h1, ih]
    have h2 : ((p.length : Int) == -1) = false := by simpa using (by omega : ¬ (p.length : Int) = -1)
    simp [h2]
theorem split_cut : ∀ (k : Nat) (s : List UInt8), s.count 47 = k → Lib.splitK [47] 0 k s = cutB s
  | 0, s, h => by
    rw [cutB_no s (List.count_eq_zero.1 h)]
    rfl
  | k + 1, s, h => by
    have hm : (47 : UInt8) ∈ s := List.count_pos_iff.1 (by omega)
    obtain ⟨p, r, rfl, hp⟩ := List.eq_append_cons_of_mem hm
    have hc : r.count 47 = k := by
      rw [List.count_append, List.count_cons_self, List.count_eq_zero.2 hp] at h
      omega
    rw [cutB_at p r hp, ← split_cut k r hc]
    conv => lhs; unfold Lib.splitK
    rw [index_at p r hp]
    have h2 : ((p.length : Int) == -1) = false := by simpa using (by omega : ¬ (p.length : Int) = -1)
    rw [h2]
    simp
def pcs (p : ByteArray) : List ByteArray := (cutB p.data.toList).map (fun x => ⟨x.toArray⟩)
theorem splitB_pcs (s : ByteArray) : Lib.splitB ⟨#[47]⟩ 0 (Lib.countB s ⟨#[47]⟩) s = pcs s := by
  have h1 := Lib.splitB_data ⟨#[47]⟩ 0 (Lib.countB s ⟨#[47]⟩) s
  have h2 : Lib.countB s ⟨#[47]⟩ = s.data.toList.count 47 := Lib.count_one _ _
  rw [show (⟨#[47]⟩ : ByteArray).data.toList = [47] from rfl, split_cut _ _ h2.symm] at h1
  unfold pcs
  rw [← h1, List.map_map]
  conv => lhs; rw [← List.map_id (Lib.splitB _ _ _ _)]
  exact List.map_congr_left (fun x _ => rfl)
def chkP : List ByteArray → Int
  | [] => 0
  | x :: r => if x.size = 0 then chkP r else if nameC x = 0 then chkP r else nameC x
def okP (l : List ByteArray) : List ByteArray := l.filter (fun x => !decide (x.size = 0))
theorem chkP_app : ∀ (a b : List ByteArray), chkP (a ++ b) = if chkP a = 0 then chkP b else chkP a
  | [], b => by simp [chkP]
  | x :: a, b => by
    have ih := chkP_app a b
    rw [List.cons_append, chkP, chkP]
    by_cases h1 : x.size = 0
    · rw [if_pos h1, if_pos h1, ih]
    · rw [if_neg h1, if_neg h1]
      by_cases h2 : nameC x = 0
      · rw [if_pos h2, if_pos h2, ih]
      · rw [if_neg h2, if_neg h2, if_neg h2]
theorem okP_app (a b : List ByteArray) : okP (a ++ b) = okP a ++ okP b := by simp [okP]
def isAbs (p : ByteArray) : Bool := match p.data.toList with | b :: _ => decide (b = 47) | [] => false
def splitP (p : ByteArray) : List ByteArray × Int :=
  if 120 < p.size then ([], 36) else if isAbs p = false then ([], 22) else if chkP (pcs p) = 0 then (okP (pcs p), 0) else ([], chkP (pcs p))
theorem pcs_abs {p : ByteArray} (h : isAbs p = true) : pcs p = ⟨#[]⟩ :: (cutB (p.data.toList.drop 1)).map (fun x => ⟨x.toArray⟩) := by
  unfold isAbs at h
  unfold pcs
  split at h
  · rename_i b r e
    rw [e]
    have : b = 47 := by simpa using h
    subst this
    simp [cutB]
  · cases h
theorem cutB_ne : ∀ (l : List UInt8), cutB l ≠ []
  | [] => by simp [cutB]
  | b :: r => by
    unfold cutB
    split
    · simp
    · split <;> simp
theorem cutB_len : ∀ l : List UInt8, (cutB l).length ≤ l.length + 1
  | [] => by simp [cutB]
  | b :: r => by
    have ih := cutB_len r
    rw [cutB]
    by_cases h : b = 47
    · rw [if_pos h, List.length_cons, List.length_cons]; omega
    · rw [if_neg h]
      cases hc : cutB r with
      | nil => simp
      | cons x xs => rw [hc] at ih; simp at ih ⊢; omega
theorem pcs_length (p : ByteArray) : (pcs p).length ≤ p.size + 1 := by
  unfold pcs
  rw [List.length_map]
  exact cutB_len p.data.toList
theorem cut_mid {l : List UInt8} {f i : Nat} (hf : f ≤ i) (hi : l[i]? = some 47) (hn : (47 : UInt8) ∉ (l.drop f).take (i - f)) : cutB (l.drop f) = (l.drop f).take (i - f) :: cutB (l.drop (i + 1)) := by
  obtain ⟨h1, h2⟩ := List.getElem?_eq_some_iff.1 hi
  have e : (l.drop f).drop (i - f) = 47 :: l.drop (i + 1) := by
    rw [List.drop_drop, show f + (i - f) = i from by omega, List.drop_eq_getElem_cons h1, h2]
  have e2 := List.take_append_drop (i - f) (l.drop f)
  rw [e] at e2
  conv => lhs; rw [← e2]
  exact cutB_at _ _ hn
theorem cut_end {l : List UInt8} {f : Nat} (hf : f ≤ l.length) (hn : (47 : UInt8) ∉ (l.drop f).take (l.length - f)) : cutB (l.drop f) = [(l.drop f).take (l.length - f)] := by
  have e : (l.drop f).take (l.length - f) = l.drop f := List.take_of_length_le (by rw [List.length_drop]; omega)
  rw [e] at hn ⊢
  exact cutB_no _ hn
theorem ext_mk (p : ByteArray) (a b : Nat) : (⟨((p.data.toList.drop a).take (b - a)).toArray⟩ : ByteArray) = p.extract a b := by
  rw [← Lib.extract_data]
theorem no_next {l : List UInt8} {f i : Nat} {c : UInt8} (hf : f ≤ i) (hi : l[i]? = some c) (hc : c ≠ 47) (hn : (47 : UInt8) ∉ (l.drop f).take (i - f)) : (47 : UInt8) ∉ (l.drop f).take (i + 1 - f) := by
  rw [show i + 1 - f = (i - f) + 1 from by omega, List.take_add_one, List.getElem?_drop, show f + (i - f) = i from by omega, hi]
  simp only [Option.toList, List.mem_append, List.mem_singleton, not_or]
  exact ⟨hn, fun q => hc q.symm⟩
/-- The rest of a path behind its first byte. -/
def tls (p : ByteArray) : List ByteArray := (cutB (p.data.toList.drop 1)).map (fun x => ⟨x.toArray⟩)
theorem split_tls {p : ByteArray} (h1 : ¬ 120 < p.size) (h2 : isAbs p = true) : splitP p = if chkP (tls p) = 0 then (okP (tls p), 0) else ([], chkP (tls p)) := by
  unfold splitP
  have e := pcs_abs h2
  have e1 : chkP (pcs p) = chkP (tls p) := by rw [e, chkP]; rfl
  have e2 : okP (pcs p) = okP (tls p) := by rw [e]; rfl
  rw [if_neg h1, if_neg (by rw [h2]; decide), e1, e2]
end Go.Proofs.YtdfjfagljngciaaGreatDoor
