/- Package state: a reference that is turned. -/
import Derived.Test.YtdfjfagljngciaaGreatDoorStg
set_option linter.all false
set_option maxRecDepth 100000
set_option maxHeartbeats 4000000
namespace Go.Proofs.YtdfjfagljngciaaGreatDoor
open Go.RowKit Rx Go.MapKept

def turnB (s : St) (ino page old : Int) : Bool := (getL s.L ino).isSome && !decide (old = 0) && decide (0 ≤ page) && decide (page < (dirN s ino).pages.length) && decide ((dirN s ino).pages[page.toNat]? = some old)
def turnS (s : St) (ino page old ref : Int) : St := if turnB s ino page old = true then ⟨setL s.L { dirN s ino with pages := (dirN s ino).pages.set page.toNat ref }, s.last⟩ else s
theorem state_Turn (X : Nat → Prop) (b m : Nat) (s : St) (hf : Fine s) (ino page old ref : Int) (hr : I64 ref) (w : World) (h : StAt w X b m s) :
    Calls Tryz.prog 23 #[.pointer (some ⟨b, 0, none⟩), .int .i64 ino, .int .i64 page, .int .i64 old, .int .i64 ref] w fun r w' => r = .returned (.bool (turnB s ino page old)) ∧ StAt w' X b m (turnS s ino page old ref) ∧ Step (fun k => k = b ∨ k = m) w w' := by
  have hsb := h.size_b
  refine calls_rx h23 Tryz.func23 rfl Tryz.mixed (by kernel_rfl) Tryz.results23 ?_
  unfold turnS turnB
  simp -dsimp [go_sem]
  refine (state_Get X b m s hf.d ino hf.sz w h).mono ?_; rintro _ w1 ⟨p, q, rfl, n1, k1⟩; refine ret_intro ?_
  have dok := h.okN ino
  have dsz := hf.szN ino
  simp only [show (getL s.L ino).getD node0 = dirN s ino from rfl] at n1 dok dsz ⊢
  have hdi : (getL s.L ino).isSome = true → (dirN s ino).ino = ino := fun q => by
    cases hq : getL s.L ino with
    | none => rw [hq] at q; cases q
    | some n => rw [dirN_some hq]; exact (getL_some hq).2
  generalize hD : dirN s ino = d at n1 dok dsz hdi ⊢
  generalize hI : (getL s.L ino).isSome = is at hdi ⊢
  obtain ⟨pa, pc, ma, mc, rfl, rfl, -⟩ := n1.slices
  unfold Node.enc
  simp -dsimp [go_sem]
  generalize hW : w1.alloc _ = w2
  obtain ⟨R0, k2, z2⟩ := alloc1 hW
  clear hW
  have n2 := n1.keep k2
  have kw := Keep.trans k1 k2
  have R0c := blk_cell R0; have R0f := blk_free R0; have R0l := blk_lt R0
  cases is
  · simp -dsimp [go_sem, R0c, R0f, R0l]
    exact ⟨h.keep kw, kw.any⟩
  by_cases g1 : old = 0
  · simp -dsimp [go_sem, R0c, R0f, R0l, g1]
    exact ⟨h.keep kw, kw.any⟩
  by_cases g2 : page < 0
  · have g2' : ¬ 0 ≤ page := by omega
    simp -dsimp [go_sem, R0c, R0f, R0l, g1, g2, g2']
    exact ⟨h.keep kw, kw.any⟩
  have g2' : 0 ≤ page := by omega
  obtain ⟨i, rfl⟩ := Int.eq_ofNat_of_zero_le g2'
  by_cases g3 : i < d.pages.length
  rotate_left
  · have g3' : ¬ (i : Int) < d.pages.length := by omega
    have g3c : d.pages.length ≤ i := by omega
    simp -dsimp [go_sem, R0c, R0f, R0l, g1, g2, g2', g3, g3', g3c]
    exact ⟨h.keep kw, kw.any⟩
  have g3' : (i : Int) < d.pages.length := by omega
  have g3c : ¬ d.pages.length ≤ i := by omega
  have hx : d.pages[i]? = some d.pages[i] := List.getElem?_eq_getElem g3
  generalize d.pages[i] = x at hx
  obtain ⟨gb, off, c', e', hgl, hgo, hgc, hgf, hx64, hset⟩ := n2.po.int_at hx
  cases e'
  have hxe : d.pages[i]? = some x := hx
  have hxg : ∀ hh : i < d.pages.length, d.pages[i] = x := fun hh => (List.getElem?_eq_some_iff.1 hx).2
  by_cases g4 : x = old
  rotate_left
  · simp -dsimp [go_sem, R0c, R0f, R0l, g1, g2, g2', g3, g3', g3c, hgl, hgc, hgf, g4, hxg]
    exact ⟨h.keep kw, kw.any⟩
  subst g4
  simp -dsimp [go_sem, R0c, R0f, R0l, g1, g2, g2', g3, g3', g3c, hgl, hgc, hgf, hxg]
  have o5 := hset ref hr
  have s5 : Step (fun k => k = gb) w2 (w2.setCell ⟨gb, off + i, none⟩ (.int .i64 ref)) := (Step.refl (fun k => k = gb) w2).set (p := ⟨gb, off + i, none⟩) (.inl rfl) _
  generalize qw5 : w2.setCell ⟨gb, off + i, none⟩ (.int .i64 ref) = w5 at o5 s5 ⊢
  clear qw5
  have l1 := k1.size
  have hgb := n2.pb gb hgo
  have hgb2 := n1.po.lt hgo
  have l5 := s5.size
  have h5 : StAt w5 X b m s := h.keep (Step.keep kw s5 (fun j q => by omega))
  have H5 := h5.hb
  have R5 := s5.blk R0 (by omega)
  have m5 := n2.mo.flat flat_entry (Y := fun _ => True) s5 (fun b hb q => by subst q; exact n2.ne b hgo hb)
  clear R0c R0f R0l
  have H5c := blk_cell H5; have H5f := blk_free H5; have H5l := blk_lt H5; have R5c := blk_cell R5; have R5f := blk_free R5; have R5l := blk_lt R5
  simp -dsimp [go_sem, H5c, H5f, H5l, R5c, R5f, R5l]
  have n5 : NNew w.heap.size w5 { d with pages := d.pages.set i ref } (.slice (some ⟨gb, off, none⟩) d.pages.length pc) (.slice ma d.names.length mc) := ⟨⟨o5, m5, n2.ne⟩, n2.pb, n2.mb⟩
  have r5 := n5.rep (X := X) dok (fun g _ hx => h.xl g hx)
  obtain ⟨w6, hu, h6, s6⟩ := (h5.keep (keep_drew w5)).upd (rNode.keep r5 (keep_drew w5)) (hdi rfl)
  refine upd_intro hu ?_
  have kw5 : Keep w w5 := Step.keep kw s5 (fun j q => by omega)
  have sO : Step (fun k => k = b ∨ k = m) w w6 := ((kw5.any (O := fun k => k = b ∨ k = m)).then (keep_drew w5)).trans s6 (fun i _ q => .inr q)
  simp -dsimp [go_sem]
  exact ⟨⟨⟨g1, g3⟩, hx⟩, by rw [if_pos ⟨⟨g1, g3⟩, hx⟩]; exact h6, sO⟩
end Go.Proofs.YtdfjfagljngciaaGreatDoor
