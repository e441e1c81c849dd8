/- Package state: Find. -/
import Derived.Test.YtdfjfagljngciaaGreatDoorSpl
import Derived.Test.YtdfjfagljngciaaGreatDoorStq
set_option linter.all false
set_option maxRecDepth 100000
set_option maxHeartbeats 4000000
namespace Go.Proofs.YtdfjfagljngciaaGreatDoor
open Go.RowKit Rx Go.MapKept

def walkS (s : St) : List ByteArray → Int → Int × Int
  | [], k => (k, 0)
  | x :: r, k => if isDir s k = false then (0, 20) else if (findN (dirN s k).names x).2 = false then (0, 2) else walkS s r (findN (dirN s k).names x).1
def findP (s : St) (p : ByteArray) : Int × Int := if (splitP p).2 = 0 then walkS s (splitP p).1 1 else (0, (splitP p).2)
theorem walk_at {s : St} {l : List ByteArray} {i : Nat} {x : ByteArray} (hx : l[i]? = some x) (k : Int) : walkS s (l.drop i) k = if isDir s k = false then (0, 20) else if (findN (dirN s k).names x).2 = false then (0, 2) else walkS s (l.drop (i + 1)) (findN (dirN s k).names x).1 := by
  obtain ⟨h1, h2⟩ := List.getElem?_eq_some_iff.1 hx
  rw [List.drop_eq_getElem_cons h1, h2, walkS]
theorem state_Find (X : Nat → Prop) (b m : Nat) (s : St) (hf : Fine s) (p : ByteArray) (M : Int) (w : World) (hm : w.cell? ⟨0, 0, none⟩ = some (.int .i64 M)) (h : StAt w X b m s) :
    Calls Tryz.prog 16 #[.pointer (some ⟨b, 0, none⟩), .string p] w fun r w' => r = .returned (.tuple #[.int .i64 (findP s p).1, .int .i64 (findP s p).2]) ∧ Keep w w' := by
  refine calls_rx h16 Tryz.func16 rfl Tryz.mixed (by kernel_rfl) Tryz.results16 ?_
  unfold findP
  simp -dsimp [go_sem]
  refine (state_ok X b m s w h).mono ?_; rintro _ w1 ⟨rfl, rfl⟩; refine ret_intro ?_
  simp -dsimp [go_sem]
  refine (name_Split p M w hm).mono ?_; rintro _ w1 ⟨v, rfl, hv, k1⟩; refine ret_intro ?_
  generalize splitP p = sp at hv ⊢
  obtain ⟨l, e⟩ := sp
  simp only at hv ⊢
  obtain ⟨a, c, rfl, -⟩ := id hv
  have hml := hv.len
  unfold maxLen at hml
  by_cases g0 : e = 0
  rotate_left
  · rw [if_neg g0]
    simp -dsimp [go_sem, g0]
    exact k1
  subst g0
  rw [if_pos rfl]
  simp -dsimp [go_sem]
  refine loop_intro (σ := Nat × Int) (fun t => [.int .i64 t.2, .int .i64 t.1]) (fun t w' => t.1 ≤ l.length ∧ Keep w1 w' ∧ walkS s l 1 = walkS s (l.drop t.1) t.2) (fun t => l.length - t.1) (0, 1) (by simp -dsimp [go_sem]; rfl) (by simp -dsimp [go_sem]) ⟨Nat.zero_le _, Keep.refl w1, rfl⟩ ?_
  rintro ⟨i, k⟩ w2 ⟨hi, hk12, hw⟩
  simp only at hi hw
  have k2 := Keep.trans k1 hk12
  simp -dsimp [go_sem]
  by_cases y1 : i < l.length
  rotate_left
  · obtain rfl : i = l.length := by omega
    rw [List.drop_length] at hw
    rw [hw]
    simp -dsimp [go_sem, Nat.lt_irrefl]
    exact ⟨⟨rfl, rfl⟩, k2⟩
  have hx : l[i]? = some l[i] := List.getElem?_eq_getElem _
  generalize l[i] = x at hx
  rw [walk_at hx] at hw
  have y2 : (i : Int) < l.length := by omega
  obtain ⟨bb, off, c', e, hb, -, hc⟩ := (hv.keep hk12).str hx
  cases e
  simp -dsimp [go_sem, y1, y2, hb, hc]
  refine (state_dir X b m s hf.d k hf.sz w2 (h.keep k2)).mono ?_; rintro _ w3 ⟨pp, pq, rfl, n3, k3⟩; refine ret_intro ?_
  have hnd : (getL s.L k).getD node0 = dirN s k := rfl
  have hid : ((getL s.L k).isSome && decide (((getL s.L k).getD node0).kind = 2)) = isDir s k := rfl
  rw [hid]
  rw [hnd] at n3 ⊢
  obtain ⟨pa, pc, ma, mc, rfl, rfl, -⟩ := n3.slices
  have hsz : (dirN s k).names.length ≤ 2 ^ 20 := (hf.szN k).2
  generalize hN : dirN s k = nd at n3 hw hsz ⊢
  unfold Node.enc
  cases hD : isDir s k
  · rw [if_pos hD] at hw
    simp -dsimp [go_sem]
    rw [hw]
    exact ⟨⟨rfl, rfl⟩, Keep.trans k2 (k3.alloc _)⟩
  rw [if_neg (by rw [hD]; decide)] at hw
  simp -dsimp [go_sem]
  generalize hW : w3.alloc _ = w4
  obtain ⟨N4, k4, z4⟩ := alloc1s hW
  clear hW
  have N4c := blk_cell N4; have N4f := blk_free N4; have N4l := blk_lt N4
  try simp -dsimp [go_sem, N4c, N4f, N4l]
  have n4 := n3.keep k4
  refine (dirs_Find (fun _ => False) _ nd.names x w4 ((n4.mo.all flat_entry (Y := fun _ => False)).sl (fun _ _ q => q)) (by omega)).mono ?_; rintro _ w5 ⟨rfl, k5⟩; refine ret_intro ?_
  generalize findN nd.names x = fd at hw ⊢
  obtain ⟨f1, f2⟩ := fd
  have k25 := Keep.trans k3 (Keep.trans k4 k5)
  cases f2
  · rw [if_pos rfl] at hw
    simp -dsimp [go_sem]
    rw [hw]
    exact ⟨⟨rfl, rfl⟩, Keep.trans k2 k25⟩
  rw [if_neg (by simp)] at hw
  simp -dsimp [go_sem]
  try simp -dsimp (disch := omega) only [IntWalk.i64_in, IntWalk.u64_in, IntWalk.u8_in]
  exact back_intro (i + 1, f1) (by simp -dsimp [go_sem]) (by simp -dsimp [go_sem]) ⟨by omega, Keep.trans hk12 k25, hw⟩ (by simp only; omega)
end Go.Proofs.YtdfjfagljngciaaGreatDoor
