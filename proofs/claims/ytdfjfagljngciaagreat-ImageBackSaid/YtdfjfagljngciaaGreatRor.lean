/- Deeds with references of their own: what state.Right asks holds behind each. -/
import Derived.Test.YtdfjfagljngciaaGreatDone
import Derived.Test.YtdfjfagljngciaaGreatRig
set_option linter.all false
set_option maxRecDepth 100000
set_option maxHeartbeats 4000000
namespace Go.Proofs.YtdfjfagljngciaaGreat
open Go.RowKit Rx Go.MapKept

def refd : Nat → List Deed16 → List Deed16
  | _, [] => []
  | n, d :: l => ⟨d.e, (n : Int) + 1⟩ :: refd (n + 1) l
theorem refd_len : ∀ (l : List Deed16) (n : Nat), (refd n l).length = l.length
  | [], _ => rfl
  | d :: l, n => by simp [refd, refd_len l]
theorem refd_get : ∀ (l : List Deed16) (n i : Nat) (x : Deed16), l[i]? = some x → (refd n l)[i]? = some ⟨x.e, (n : Int) + i + 1⟩
  | [], _, i, x, h => by simp at h
  | d :: l, n, 0, x, h => by
    simp at h
    subst h
    simp [refd]
  | d :: l, n, i + 1, x, h => by
    simp at h
    have := refd_get l (n + 1) i x h
    simp only [refd, List.getElem?_cons_succ, this]
    rw [show ((n + 1 : Nat) : Int) + (i : Int) + 1 = (n : Int) + ((i + 1 : Nat) : Int) + 1 from by omega]
/-- Behind i deeds, with references of their own. -/
def ownS (l : List Deed16) (i : Nat) : St := doneS ((refd 0 l).take i)
theorem ownS_zero (l : List Deed16) : ownS l 0 = st0 := by simp [ownS, doneS]
theorem ownS_next {l : List Deed16} {i : Nat} {x : Deed16} (hx : l[i]? = some x) : ownS l (i + 1) = (applyS (ownS l i) x.e ((i : Int) + 1)).1 := by
  have h := refd_get l 0 i x hx
  unfold ownS
  rw [doneS_next h]
  simp
structure OwnR (i : Nat) (s : St) : Prop where
  good : Good (2 * i) s
  tr : Tr (fun _ => 0) s
  rf : Rfs i s
theorem OwnR.next {i : Nat} {s : St} (h : OwnR i s) (hi : i ≤ 1000) (e : Effect) : OwnR (i + 1) (applyS s e ((i : Int) + 1)).1 := by
  obtain ⟨h1, h2⟩ := right_apply h.good (by omega) h.tr (m := (i : Int)) (by omega) h.rf e
  exact ⟨(good_apply h.good (by omega) e _).mono (by omega), h1, by simpa using h2⟩
theorem ownR_own (l : List Deed16) : ∀ i, i ≤ l.length → i ≤ 1000 → OwnR i (ownS l i)
  | 0, _, _ => by rw [ownS_zero]; exact ⟨good_st0, tree_st0, refs_st0⟩
  | i + 1, h, hi => by
    have hx : l[i]? = some l[i] := List.getElem?_eq_getElem (by omega)
    rw [ownS_next hx]
    exact (ownR_own l i (by omega) (by omega)).next (by omega) _
theorem OwnR.right {i : Nat} {s : St} (h : OwnR i s) (hi : i ≤ 500) (X : Nat → Prop) (b m : Nat) (w : World) (hs : StAt w X b m s) :
    Calls Tryz.prog 101 #[.pointer (some ⟨b, 0, none⟩)] w fun r w' => r = .returned (.bool true) ∧ Keep w w' :=
  state_Right X b m s (2 * i) h.good (by omega) h.tr (h.rf.nodup (h.good.fine (by omega)).d) (by have := h.tr.root; unfold isDir dirN at this; exact this) w hs
end Go.Proofs.YtdfjfagljngciaaGreat
