/- Package state: the numbers of all nodes, a copy, the last one. Package state: an iterator over all nodes. -/
import Derived.Test.YtdfjfagljngciaaGreatStg
import Derived.Test.YtdfjfagljngciaaGreatLays
import Derived.Lib.SlKeysI
set_option linter.all false
set_option maxRecDepth 100000
set_option maxHeartbeats 4000000
namespace Go.Proofs.YtdfjfagljngciaaGreat
open Go.RowKit Rx Go.MapKept

theorem MapN.perm {X : Nat → Prop} {w : World} {es : Array MapEntry} {clock : Nat} {L : List Node} (hs : Stamped es clock) (he : Ents X w es.toList L) (hd : Inos L) : (es.toList.map (·.key)).Perm (L.map (fun n => Value.int .i64 n.ino)) := by
  have h1 : (es.toList.map (·.key)).Nodup := hs.2.2
  have h2 : (L.map (fun n => Value.int .i64 n.ino)).Nodup := by
    have : L.map (fun n => Value.int .i64 n.ino) = (L.map (·.ino)).map (Value.int .i64) := by simp
    rw [this]
    unfold Inos at hd
    rw [List.Nodup, List.pairwise_map]
    exact hd.imp (fun h q => h (by simpa using q))
  exact (List.perm_ext_iff_of_nodup h1 h2).2 (fun a => by
    simp only [List.mem_map]
    constructor
    · rintro ⟨x, hx, rfl⟩
      obtain ⟨n, hn, e⟩ := he.1 x hx
      exact ⟨n, hn, e.1.symm⟩
    · rintro ⟨n, hn, rfl⟩
      obtain ⟨x, hx, e⟩ := he.2 n hn
      exact ⟨x, hx, e.1⟩)
def toI : Value → Int
  | .int _ n => n
  | _ => 0
abbrev anyE : Value → Option (DataW Unit × List MemPlace) := fun _ => some (.nil, [])
theorem key_i64 (n : Int) (h : I64 n) : keyOf Tryz.prog 3 (.int .i64 n) = some (.int .i64 n) := by
  obtain ⟨h1, h2⟩ := h
  simp [keyOf, Tryz.underlying3, mapKey, Lit.wf, IntKind.min, IntKind.max, IntKind.signed, IntKind.bits]
  omega
theorem map_keys {w : World} {X : Nat → Prop} {m : Nat} {L : List Node} (h : MapN w X m L) (hd : Inos L) (hsz : L.length ≤ maxLen) :
    ∃ D0 : DataW Unit, w.ownsMap Tryz.prog 3 anyE m L.length D0 ∧ (intKeys D0).Perm (L.map (·.ino)) ∧ Maps.size D0 = L.length := by
  obtain ⟨es, c, hb, hs, he⟩ := h
  have hN := MapN.count hs he hd
  have hkey : ∀ x ∈ es.toList, ∃ n : Int, x.key = .int .i64 n ∧ WideElems.rd Tryz.prog 3 anyE x = some (.int .i64 n, .nil) := fun x hx => by
    obtain ⟨n, -, q, cs, -, hr⟩ := he.1 x hx
    obtain ⟨_, _, _, _, _, hok⟩ := hr
    exact ⟨n.ino, q, by simp [WideElems.rd, q, key_i64 n.ino hok.1]⟩
  refine ⟨_, ⟨es, c, hb, ⟨by omega, hs, fun x hx => by obtain ⟨n, -, q⟩ := hkey x hx; exact ⟨_, q⟩⟩, by omega, rfl⟩, ?_, ?_⟩
  · have p1 := ((WideShapes.sorted_perm (es.toList.map (WideElems.rg Tryz.prog 3 anyE))).map (fun p => Go.intOf p.1))
    have e1 : (es.toList.map (WideElems.rg Tryz.prog 3 anyE)).map (fun p => Go.intOf p.1) = (es.toList.map (·.key)).map toI := by
      rw [List.map_map, List.map_map]
      apply List.map_congr_left
      intro x hx
      obtain ⟨n, q1, q2⟩ := hkey x hx
      simp [WideElems.rg, q2, q1, toI, Go.intOf]
    have p2 := (MapN.perm hs he hd).map toI
    have e2 : (L.map (fun n => Value.int .i64 n.ino)).map toI = L.map (·.ino) := by
      rw [List.map_map]; rfl
    rw [e1] at p1
    rw [e2] at p2
    exact p1.trans p2
  · show List.length _ = _
    rw [(WideShapes.sorted_perm _).length_eq, List.length_map, Array.length_toList]; exact hN
theorem keys_map (mb : Option Nat) (W : World) : Calls Tryz.prog 118 #[.map mb] W fun e w' => e = .returned (.func (.func 142) #[] #[.pointer (some ⟨W.heap.size, 0, none⟩)]) ∧ w' = W.alloc (.cells #[.map mb] 77) :=
  callsIn_wide.1 (AnyZI.keys_in Tryz.keysA Fence.wide 5 trivial rfl mb W)
theorem sortsA (m : Nat) : AnyZI.SortsIn Tryz.prog Tryz.sortedA_ren Fence.wide m :=
  ⟨fun blk off cap ss W hH hblk hsz => callsIn_wide.2 (AnyM.slices_Sort_int Tryz.sortA blk off cap ss W hH hblk hsz),
   fun p cap W => callsIn_wide.2 (AnyM.slices_Sort_int_none Tryz.sortA p cap W)⟩
theorem sort_rising {l l' : List Int} (hp : l'.Perm l) (hs : l.Pairwise (· < ·)) : l'.mergeSort (fun x y => decide (x ≤ y)) = l := by
  rw [show l'.mergeSort (fun x y => decide (x ≤ y)) = l.mergeSort (fun x y => decide (x ≤ y)) from mergeSort_of_perm_i hp]
  exact List.mergeSort_of_pairwise (hs.imp (fun h => by simp; omega))
theorem sorted_keys {w : World} {X : Nat → Prop} {m : Nat} {L : List Node} (h : MapN w X m L) (hd : L.Pairwise (fun a b => a.ino < b.ino)) (hsz : L.length ≤ 2 ^ 40) :
    Calls Tryz.prog 117 #[.func (.func 142) #[] #[.pointer (some ⟨w.heap.size, 0, none⟩)]] (w.alloc (.cells #[.map (some m)] 77)) fun e w' =>
      ∃ v, e = .returned v ∧ Ow rInt 3 (fun _ => True) w' v (L.map (·.ino)) ∧ Keep w w' ∧ ∀ g, ownB v = some g → w.heap.size ≤ g := by
  have hI : Inos L := by
    unfold Inos
    rw [List.Nodup, List.pairwise_map]
    exact hd.imp (fun q => by omega)
  obtain ⟨D0, hown, hp, hS⟩ := map_keys h hI (Nat.le_trans hsz (by decide))
  have hok : ∀ x ∈ L.map (·.ino), I64 x := fun x hx => by
    obtain ⟨n, hn, rfl⟩ := List.mem_map.1 hx
    obtain ⟨es, c, -, -, he⟩ := id h
    obtain ⟨y, -, -, cs, -, hr⟩ := he.2 n hn
    obtain ⟨_, _, _, _, _, hok⟩ := hr
    exact hok.1
  have hbl := hown.lt
  have hseq : SeqGives Fence.wide 2 Tryz.prog 142 #[.pointer (some ⟨w.heap.size, 0, none⟩)] encZ (fun ss => ss.Perm (intKeys D0)) (Maps.size D0) (w.alloc (.cells #[.map (some m)] 77)) :=
    AnyZI.keys_gives (ρ := Tryz.keysA_ren) { Tryz.keysA with } Fence.wide _ trivial rfl (by omega) w.heap.size m L.length D0 _ (by simp) (by simp) (by
      obtain ⟨es, clock, hb, Ft, hs, hD⟩ := hown
      exact ⟨es, clock, (Below.heap_alloc _ _ m hbl).trans hb, Ft, hs, hD⟩)
  have cS := AnyZI.sorted_in Tryz.sortedA Fence.wide 5 trivial trivial trivial trivial rfl (by omega) (sortsA _) (enters_of Tryz.func130 (by kernel_rfl) rfl) 142 #[.pointer (some ⟨w.heap.size, 0, none⟩)] trivial (enters_of Tryz.func142 (by kernel_rfl) rfl) _ _ (by rw [hS]; exact Nat.le_trans hsz (by decide)) (by rw [hS]; omega) _ hseq
  refine (callsIn_wide.1 cS).mono ?_
  rintro e w' ⟨v, ss, rfl, hss, hrow, -, hB⟩
  have hsort := sort_rising (hss.trans hp) (by rw [List.pairwise_map]; exact hd)
  rw [hsort] at hrow
  have hlen : ss.length = (L.map (·.ino)).length := (hss.trans hp).length_eq
  rw [hlen] at hrow
  have k1 : Keep w w' := Keep.trans (keep_alloc w _) (Step.of_below hB)
  have ho : Ow rInt 3 (fun _ => True) w' v (L.map (·.ino)) := .inr ⟨_, .of_row hrow, Cs.ints.2 ⟨rfl, hok⟩⟩
  refine ⟨v, rfl, ho, k1, fun g hg => ?_⟩
  rcases ho.split with ⟨a, rfl, -, hb⟩ | ⟨xs, -, -, hb⟩
  · rw [hb] at hg; cases hg
  · have := (hrow.lt g (hb ▸ hg)).1
    simp at this; omega
theorem state_numbers (X : Nat → Prop) (b m : Nat) (s : St) (hd : s.L.Pairwise (fun a b => a.ino < b.ino)) (hl : s.L.length ≤ 2 ^ 40) (w : World) (h : StAt w X b m s) :
    Calls Tryz.prog 82 #[.pointer (some ⟨b, 0, none⟩)] w fun r w' => ∃ v, r = .returned v ∧ Ow rInt 3 (fun _ => True) w' v (s.L.map (·.ino)) ∧ Keep w w' ∧ ∀ g, ownB v = some g → w.heap.size ≤ g := by
  refine calls_rx h82 Tryz.func82 rfl Tryz.mixed (by kernel_rfl) Tryz.results82 ?_
  simp -dsimp [go_sem]
  refine (state_ok X b m s w h).mono ?_; rintro _ w1 ⟨rfl, rfl⟩; refine ret_intro ?_
  have H0 := h.hb
  have H0c := blk_cell H0; have H0f := blk_free H0; have H0l := blk_lt H0
  simp -dsimp [go_sem, H0c, H0f, H0l]
  refine (keys_map (some m) w).mono ?_; rintro _ w1 ⟨rfl, rfl⟩; refine ret_intro ?_
  simp -dsimp [go_sem]
  refine (sorted_keys h.hm hd hl).mono ?_; rintro _ w1 ⟨v, rfl, o1, k1, b1⟩; refine ret_intro ?_
  simp -dsimp [go_sem]
  exact ⟨o1, k1, b1⟩
theorem state_Last (X : Nat → Prop) (b m : Nat) (s : St) (w : World) (h : StAt w X b m s) :
    Calls Tryz.prog 46 #[.pointer (some ⟨b, 0, none⟩)] w fun r w' => r = .returned (.int .i64 s.last) ∧ w = w' := by
  refine calls_rx h46 Tryz.func46 rfl Tryz.mixed (by kernel_rfl) Tryz.results46 ?_
  simp -dsimp [go_sem]
  refine (state_ok X b m s w h).mono ?_; rintro _ w1 ⟨rfl, rfl⟩; refine ret_intro ?_
  have H0 := h.hb
  have H0c := blk_cell H0; have H0f := blk_free H0; have H0l := blk_lt H0
  simp -dsimp [go_sem, H0c, H0f, H0l]
theorem clone_map (es : Array MapEntry) (clock m : Nat) (w : World) (hb : w.heap[m]? = some (.map es clock)) : Calls Tryz.prog 79 #[.map (some m)] w fun e w' => e = .returned (.map (some w.heap.size)) ∧ w' = w.alloc (.map es clock) :=
  AnyW.maps_Clone Tryz.cloneA m es clock w hb
theorem state_Copy (X : Nat → Prop) (b m : Nat) (s : St) (w : World) (h : StAt w X b m s) :
    Calls Tryz.prog 44 #[.pointer (some ⟨b, 0, none⟩)] w fun r w' => ∃ b' m', r = .returned (.pointer (some ⟨b', 0, none⟩)) ∧ StAt w' (fun k => X k ∨ k = b' ∨ k = m') b' m' s ∧ Keep w w' ∧ w.heap.size ≤ b' ∧ w.heap.size ≤ m' ∧ b' ≠ m' ∧ b' < w'.heap.size ∧ m' < w'.heap.size := by
  refine calls_rx h44 Tryz.func44 rfl Tryz.mixed (by kernel_rfl) Tryz.results44 ?_
  simp -dsimp [go_sem]
  refine (state_ok X b m s w h).mono ?_; rintro _ w1 ⟨rfl, rfl⟩; refine ret_intro ?_
  have H0 := h.hb
  have H0c := blk_cell H0; have H0f := blk_free H0; have H0l := blk_lt H0
  simp -dsimp [go_sem, H0c, H0f, H0l]
  obtain ⟨es, c, hb, hs, he⟩ := id h.hm
  refine (clone_map es c m w.drew hb).mono ?_; rintro _ w1 ⟨rfl, rfl⟩; refine ret_intro ?_
  have k1 : Keep w (w.drew.alloc (.map es c)) := Keep.trans (keep_drew w) (keep_alloc w.drew _)
  have M1 := heap_alloc_new w.drew (.map es c)
  refine ⟨Keep.agree k1 (Agree.refl _), ?_⟩
  have z1 : (w.drew.alloc (.map es c)).heap.size = w.heap.size + 1 := by rw [World.size_alloc]; rfl
  generalize w.drew.alloc (.map es c) = w1 at k1 M1 z1 ⊢
  have H1 := k1.blk H0 (fun q => q)
  clear H0c H0f H0l
  have H1c := blk_cell H1; have H1f := blk_free H1; have H1l := blk_lt H1
  simp -dsimp [go_sem, H1c, H1f, H1l]
  generalize hW : w1.alloc _ = w2
  obtain ⟨R2, k2, z2⟩ := alloc1 hW
  clear hW
  have k12 := Keep.trans k1 k2
  have z1' : w.drew.heap.size = w.heap.size := rfl
  rw [z1'] at M1
  have hXl : ∀ k, X k → k < w.heap.size := h.xl
  refine ⟨Keep.agree k12 (Agree.refl _), ?_⟩
  refine ⟨w.heap.size, ⟨?_, ⟨es, c, k2.blk M1 (fun q => q), hs, ?_⟩, .inr (.inl rfl), .inr (.inr rfl), fun k q => ?_⟩, k12, by omega⟩
  · first | exact R2 | simpa using R2
  · exact (he.mono (Y := fun k => X k ∨ k = w1.heap.size ∨ k = w.heap.size) (fun k hk q => by
      rcases q with q | q | q
      · exact q
      · omega
      · omega)).step k12 (fun _ q => q.elim)
  · rcases q with q | q | q
    · have := hXl k q; omega
    · omega
    · omega
end Go.Proofs.YtdfjfagljngciaaGreat

set_option linter.all false
set_option maxRecDepth 100000
set_option maxHeartbeats 4000000
namespace Go.Proofs.YtdfjfagljngciaaGreat
open Go.RowKit Rx Go.MapKept

theorem yield_intro {P : Program} {l : Nat} {args : Array Value} {w : World} {k : Value → World → Prop} {tk : Tag k} {R : Ending → World → Prop} (h : YAt P l args w R) (hk : ∀ e w', R e w' → Ret k e w') : upon P (Shut k tk) ((Instr.yield l args).run P w) := by
  obtain ⟨fn, tmps, assign, body, e, hr⟩ := h
  rw [e]
  exact RoundIn.mono hr hk
theorem state_Nodes (b : Option Addr) (w : World) :
    Calls Tryz.prog 47 #[.pointer b] w fun r w' => ∃ p, r = .returned (.func (.func 81) #[] #[.pointer (some ⟨p, 0, none⟩)]) ∧ w'.heap[p]? = some (.cells #[.pointer b] 34 (0, 0)) ∧ Keep w w' ∧ w.heap.size ≤ p ∧ p < w'.heap.size := by
  refine calls_rx h47 Tryz.func47 rfl Tryz.mixed (by kernel_rfl) Tryz.results47 ?_
  simp -dsimp [go_sem]
  exact ⟨(Array.getElem?_eq_some_iff.1 (heap_alloc_new w _)).2, keep_alloc w _⟩
/-- What the iterator hands over for a node: its number, and a copy of it in new blocks. -/
def RN (B0 : Nat) (B : Nat → Prop) (w : World) (x : Node) (vs : List Value) : Prop :=
  ∃ p q, vs = [.int .i64 x.ino, .agg (x.enc p q).toArray] ∧ NNew B0 w x p q ∧ x.ok ∧ (∀ g, ownB p = some g → ¬ B g) ∧ (∀ g, ownB q = some g → ¬ B g) ∧ ∀ k, B k → k < w.heap.size
theorem nodes_eg : ∀ args w, (callFunc 81 args).run Tryz.prog w = .ok (.enter 81 args) w := enters_of Tryz.func81 (by kernel_rfl) rfl
theorem nodes_iter (X : Nat → Prop) (b m : Nat) (s : St) (hd : s.L.Pairwise (fun a b => a.ino < b.ino)) (hp : ∀ n ∈ s.L, n.pages.length ≤ 2 ^ 20 ∧ n.names.length ≤ 2 ^ 20) (hl : s.L.length ≤ 2 ^ 40) (w0 : World) (h : StAt w0 X b m s) (p : Nat)
    (hb : w0.heap[p]? = some (.cells #[.pointer (some ⟨b, 0, none⟩)] 34 (0, 0))) (A0 : Nat → Prop) (hA : ∀ k, A0 k → X k ∧ k ≠ b ∧ k ≠ m ∧ k ≠ p) :
    Iter Tryz.prog 81 #[.pointer (some ⟨p, 0, none⟩)] (RN w0.heap.size) s.L A0 w0 := by
  have hI : Inos s.L := by
    unfold Inos
    rw [List.Nodup, List.pairwise_map]
    exact hd.imp (fun q => by omega)
  intro l J E A W k0 hA' hlt hJk hEk hround h0
  show Calls Tryz.prog 81 #[.func (.yield l) #[] #[], .pointer (some ⟨p, 0, none⟩)] W _
  refine calls_rx h81 Tryz.func81 rfl Tryz.mixed (by kernel_rfl) Tryz.results81 ?_
  have B0 := k0.blk hb (fun q => q)
  have hW := h.keep k0
  have hps := blk_lt hb
  have B0c := blk_cell B0; have B0f := blk_free B0; have B0l := blk_lt B0
  simp -dsimp [go_sem, B0c, B0f, B0l]
  refine (state_numbers X b m s hd hl W hW).mono ?_; rintro _ w1 ⟨v, rfl, o1, k1, b1⟩; refine ret_intro ?_
  have hAl := hlt 0 A W h0
  have h1 := hJk 0 A W w1 h0 k1
  obtain ⟨va, vc, rfl, -⟩ := o1.slice
  have z0 := k0.size
  have z1 := k1.size
  have hlen : (s.L.map (·.ino)).length = s.L.length := List.length_map _
  rw [hlen]
  simp -dsimp [go_sem]
  refine loop_intro (σ := Nat) (fun i => [.int .i64 i]) (fun i w' => i ≤ s.L.length ∧ ∃ B, J i B w' ∧ Step A w1 w' ∧ ∀ k, B k → A k ∨ w1.heap.size ≤ k) (fun i => s.L.length - i) 0 (by simp -dsimp [go_sem]; rfl) (by simp -dsimp [go_sem]) ⟨Nat.zero_le _, A, h1, Step.refl _ _, fun k q => .inl q⟩ ?_
  rintro i w2 ⟨hi, B, hB, s2, hBA⟩
  have s02 : Step A0 w0 w2 := Step.trans (O := A0) (Keep.any (Keep.trans k0 k1)) s2 (fun i hi q => (hA' i q).resolve_right (by omega))
  have h2 : StAt w2 X b m s := h.step s02 (fun k q => (hA k q).1) (fun q => (hA b q).2.1 rfl) (fun q => (hA m q).2.2.1 rfl)
  have B2 := s02.blk hb (fun q => (hA p q).2.2.2 rfl)
  have z2 := s2.size
  by_cases hil : i < s.L.length
  rotate_left
  · simp -dsimp [go_sem, hil]
    obtain rfl : i = s.L.length := by omega
    exact .inl ⟨B, hB⟩
  have hx : s.L[i]? = some s.L[i] := List.getElem?_eq_getElem hil
  generalize s.L[i] = x at hx
  have hxm : x ∈ s.L := List.mem_of_getElem? hx
  have o2 : Ow rInt 3 (fun _ => False) w2 (.slice va (s.L.map (·.ino)).length vc) (s.L.map (·.ino)) := o1.flat flat_int s2 (fun g hg q => by have := b1 g hg; have := hAl g q; omega)
  obtain ⟨g, off, cc, e1, hg, -, hcell, hx64⟩ := (o2.sl (fun _ _ q => q)).int (i := i) (x := x.ino) (by rw [List.getElem?_map, hx]; rfl)
  simp only [Value.slice.injEq] at e1
  obtain ⟨rfl, -, rfl⟩ := e1
  clear B0c B0f B0l
  have B2c := blk_cell B2; have B2f := blk_free B2; have B2l := blk_lt B2
  simp -dsimp [go_sem, hil, hcell, hg, B2c, B2f, B2l]
  refine (state_Get X b m s hI x.ino hp w2 h2).mono ?_; rintro _ w3 ⟨pp, pq, rfl, n3, k3⟩; refine ret_intro ?_
  have hgx : getL s.L x.ino = some x := getL_mem hI hxm
  have xok := h2.okN x.ino
  rw [hgx] at n3 xok ⊢
  simp only [Option.getD_some, Option.isSome_some] at n3 xok ⊢
  obtain ⟨pa, pc, ma, mc, rfl, rfl, -⟩ := n3.slices
  unfold Node.enc
  simp -dsimp [go_sem]
  generalize hW4 : w3.alloc _ = w4
  obtain ⟨N4, k4, z4⟩ := alloc1 hW4
  clear hW4 B2c B2f B2l
  replace B2 := Step.blk k3 B2 (fun q => q)
  replace B2 := Step.blk k4 B2 (fun q => q)
  have B2c := blk_cell B2; have B2f := blk_free B2; have B2l := blk_lt B2; have N4c := blk_cell N4; have N4f := blk_free N4; have N4l := blk_lt N4
  try simp -dsimp [go_sem, B2c, B2f, B2l, N4c, N4f, N4l]
  have k34 := Keep.trans k3 k4
  have z3 := k3.size
  have n4 := n3.keep k4
  have hBl := hlt i B w2 hB
  refine yield_intro (args := [Value.int .i64 x.ino, .agg (x.enc (.slice pa x.pages.length pc) (.slice ma x.names.length mc)).toArray].toArray) (hround i x B w4 _ hx (hJk i B w2 w4 hB k34) ⟨_, _, rfl, n4.le (by omega), xok, fun g hg q => ?_, fun g hg q => ?_, fun g q => by have := hBl g q; omega⟩) ?_
  · have := n4.pb g hg; have := hBl g q; omega
  · have := n4.mb g hg; have := hBl g q; omega
  rintro e w5 (⟨rfl, B', hJ', sB, hB'⟩ | ⟨rfl, hE⟩)
  · refine ret_intro ?_
    simp -dsimp [go_sem]
    try simp -dsimp (disch := omega) only [IntWalk.i64_in, IntWalk.u64_in, IntWalk.u8_in]
    have sA : Step (fun k => A k ∨ w1.heap.size ≤ k) w2 w5 := Step.trans (O := fun k => A k ∨ w1.heap.size ≤ k) (Keep.any k34) sB (fun j hj q => hBA j q)
    exact back_intro (i + 1) (by simp -dsimp [go_sem]) (by simp -dsimp [go_sem]) ⟨by omega, B', hJ', s2.trans sA (fun j hj q => q.resolve_right (by omega)), fun j q => (hB' j q).elim (fun q => hBA j q) (fun q => .inr (by omega))⟩ (by omega)
  · refine ret_intro ?_
    simp -dsimp [go_sem]
    exact .inr hE
end Go.Proofs.YtdfjfagljngciaaGreat
