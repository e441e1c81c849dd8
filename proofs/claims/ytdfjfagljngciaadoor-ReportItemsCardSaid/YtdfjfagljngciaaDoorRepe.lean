/- report.Effect, and the other functions that 'ReportItems' leans on. -/
import Derived.Test.YtdfjfagljngciaaDoorRepo
import Derived.Test.YtdfjfagljngciaaDoorTypesR
set_option linter.all false
namespace Go.Proofs.YtdfjfagljngciaaDoor
open Go.RowKit Rx

theorem OB.blk {B b k : Nat} {w w' : World} {cs : Array Value} {t : TypeId} {fr : Nat × Nat} (s : Step (OB B b w) w w') (h : w.heap[k]? = some (.cells cs t fr)) (ht : t ≠ 5) (hk : k ≠ b) : w'.heap[k]? = some (.cells cs t fr) := by
  refine s.blk h (fun q => ?_)
  rcases q.2 with q | ⟨cs', fr', q⟩
  · exact hk q
  · rw [h] at q; cases q; exact ht rfl
/-- A world with one block blanked out. -/
def holed (w : World) (b : Nat) : World := { w with heap := w.heap.setIfInBounds b (.coro none) }
theorem holed_blk {w : World} {b k : Nat} (hk : k ≠ b) : (holed w b).heap[k]? = w.heap[k]? := Array.getElem?_setIfInBounds_ne (fun e => hk e.symm)
theorem holed_agree {w w' : World} {b : Nat} (h : ∀ k, k < w.heap.size → k ≠ b → w'.heap[k]? = w.heap[k]?) : Agree (holed w b) w' := fun k o ho hh => by
  by_cases hk : k = b
  · subst hk
    unfold holed at ho
    simp only [Array.getElem?_setIfInBounds_self] at ho
    split at ho
    · cases ho; cases hh
    · cases ho
  · rw [holed_blk hk] at ho
    rw [h k (blk_lt ho) hk]; exact ho
theorem effW_len (k : Int) : (effW k).length ≤ 6 := by
  unfold effW
  repeat' split
  all_goals simp
def effL (x : Effect) : List UInt8 :=
  orL (effW x.kind) ++ numL [105, 110, 111] x.ino ++ numL [100, 105, 114] x.dir ++ numL [116, 111] x.to ++ numL [112, 97, 103, 101] x.page ++ numL [115, 105, 122, 101] x.size ++
  partL [110, 97, 109, 101] x.name.data.toList ++ partL [111, 116, 104, 101, 114] x.other.data.toList ++ numL [98, 121, 116, 101, 115] x.data.length
set_option maxRecDepth 100000 in
set_option maxHeartbeats 4000000 in
theorem report_Effect (x : Effect) (a : Option Addr) (c : Nat) (w : World) (hT : Tab w) (h1 : I64 x.ino) (h2 : I64 x.dir) (h3 : I64 x.to) (h4 : I64 x.page) (h5 : I64 x.size) (hn : x.name.size ≤ 100) (ho : x.other.size ≤ 100) (hd : x.data.length ≤ 300) :
    Calls Tryd.prog 15 #[.agg (x.enc (.slice a x.data.length c)).toArray] w fun e w' => e = .returned (.string (txt (effL x))) ∧ Keep w w' := by
  obtain ⟨kind, ino, dir, to, page, size, name, other, data⟩ := x
  obtain ⟨name, rfl⟩ := of_txt name
  obtain ⟨other, rfl⟩ := of_txt other
  simp only [txt_size] at h1 h2 h3 h4 h5 hn ho hd
  unfold effL Effect.enc
  simp only [txt_data]
  refine calls_rx h15 Tryd.func15 rfl Tryd.mixed (by kernel_rfl) Tryd.results15 ?_
  simp -dsimp [go_sem]
  have F1 := heap_alloc_new ((w.alloc (Obj.cells #[.int .i64 kind, .int .i64 ino, .int .i64 dir, .int .i64 to, .int .i64 page, .int .i64 size, .string (txt name), .string (txt other), .slice a data.length c] 25)).alloc (Obj.cells #[.pointer none, .slice none 0 0] 68)) (Obj.cells #[.pointer (some ⟨w.heap.size + 1, 0, none⟩)] 66)
  have G1 := blk_alloc (blk_alloc (heap_alloc_new w (Obj.cells #[.int .i64 kind, .int .i64 ino, .int .i64 dir, .int .i64 to, .int .i64 page, .int .i64 size, .string (txt name), .string (txt other), .slice a data.length c] 25)) (Obj.cells #[.pointer none, .slice none 0 0] 68)) (Obj.cells #[.pointer (some ⟨w.heap.size + 1, 0, none⟩)] 66)
  have E1 := blk_alloc (heap_alloc_new (w.alloc (Obj.cells #[.int .i64 kind, .int .i64 ino, .int .i64 dir, .int .i64 to, .int .i64 page, .int .i64 size, .string (txt name), .string (txt other), .slice a data.length c] 25)) (Obj.cells #[.pointer none, .slice none 0 0] 68)) (Obj.cells #[.pointer (some ⟨w.heap.size + 1, 0, none⟩)] 66)
  have K1 := ((keep_alloc w (Obj.cells #[.int .i64 kind, .int .i64 ino, .int .i64 dir, .int .i64 to, .int .i64 page, .int .i64 size, .string (txt name), .string (txt other), .slice a data.length c] 25)).alloc (Obj.cells #[.pointer none, .slice none 0 0] 68)).alloc (Obj.cells #[.pointer (some ⟨w.heap.size + 1, 0, none⟩)] 66)
  simp only [World.size_alloc, Nat.add_assoc, Nat.reduceAdd] at F1 E1
  have S1 : w.heap.size + 2 ≤ (((w.alloc (Obj.cells #[.int .i64 kind, .int .i64 ino, .int .i64 dir, .int .i64 to, .int .i64 page, .int .i64 size, .string (txt name), .string (txt other), .slice a data.length c] 25)).alloc (Obj.cells #[.pointer none, .slice none 0 0] 68)).alloc (Obj.cells #[.pointer (some ⟨w.heap.size + 1, 0, none⟩)] 66)).heap.size := by simp
  have H1 : Bld (((w.alloc (Obj.cells #[.int .i64 kind, .int .i64 ino, .int .i64 dir, .int .i64 to, .int .i64 page, .int .i64 size, .string (txt name), .string (txt other), .slice a data.length c] 25)).alloc (Obj.cells #[.pointer none, .slice none 0 0] 68)).alloc (Obj.cells #[.pointer (some ⟨w.heap.size + 1, 0, none⟩)] 66)) 68 (w.heap.size + 1) (w.heap.size + 1) [] := ⟨_, .inl rfl, Nat.le_refl _, _, E1, World.ownsRow_nil _ _ _ _, by simp [Value.ownBlock]⟩
  clear E1
  generalize hw1 : ((w.alloc _).alloc _).alloc _ = w1 at F1 G1 K1 S1 H1 ⊢
  have C1 := blk_cell F1 0
  have L1 := blk_lt F1
  have D1 := blk_cell G1
  have M1 := blk_lt G1
  have Z1 : w1.heap.size = w.heap.size + 3 := by rw [← hw1]; simp
  have hag : ∀ w', (∀ k, k < w1.heap.size → k ≠ w.heap.size + 1 → w'.heap[k]? = w1.heap[k]?) → Agree (holed w1 (w.heap.size + 1)) w' := fun w' h => holed_agree h
  refine blankF_intro (holed w1 (w.heap.size + 1)) (hag _ (fun _ _ _ => rfl)) ?_
  have F0 := (holed_blk (w := w1) (b := w.heap.size + 1) (by omega)).trans F1
  have G0 := (holed_blk (w := w1) (b := w.heap.size + 1) (by omega)).trans G1
  have C0 := blk_cell F0 0
  have L0 := blk_lt F0
  have D0 := blk_cell G0
  have M0 := blk_lt G0
  simp at C0
  simp -dsimp [go_sem, C0, L0, D0, M0]
  refine (effect_Word kind _).mono ?_; rintro e w2 ⟨rfl, k2⟩; refine ret_intro ?_
  have k12 := Keep.trans (keep_drew w1) k2
  have F2 := k12.blk F1 (fun q => q)
  have G2 := k12.blk G1 (fun q => q)
  have K2 := Keep.trans K1 k12
  have S2 := Nat.le_trans S1 k12.size
  have H2 := H1.keep k12
  have C2 := blk_cell F2 0
  have L2 := blk_lt F2
  have D2 := blk_cell G2
  have M2 := blk_lt G2
  simp at C2
  simp -dsimp [go_sem, C2, L2, D2, M2]
  refine ⟨hag _ (fun k hk _ => k12.block k hk (fun q => q)), ?_⟩
  have hk0 := effW_len kind
  refine (liner_begin (w.heap.size + 1) (w.heap.size + 1) [] (effW kind) _ H2 (by simp; omega) (by omega)).mono ?_; rintro e w3 ⟨rfl, H3, k3⟩; refine ret_intro ?_
  have F3 := OB.blk k3 F2 (by decide) (by omega)
  have G3 := OB.blk k3 G2 (by decide) (by omega)
  have K3 := OB.from K2 k3 (by omega)
  have S3 := Nat.le_trans S2 k3.size
  have C3 := blk_cell F3 0
  have L3 := blk_lt F3
  have D3 := blk_cell G3
  have M3 := blk_lt G3
  simp at C3
  have hag3 : Agree (holed w1 (w.heap.size + 1)) w3 := hag _ (fun k hk hne => by
    refine (k3.block k (Nat.lt_of_lt_of_le hk k12.size) (fun q => ?_)).trans (k12.block k hk (fun q => q))
    rcases q with ⟨q1, q2 | ⟨cs, fr, q2⟩⟩
    · exact hne q2
    · have hk2 : k = w.heap.size + 2 := by omega
      rw [hk2, F2] at q2; cases q2)
  have Y3 : ([] ++ (if effW kind = [] then [63] else effW kind) : List UInt8).length ≤ 10 := by split <;> simp; omega
  generalize hz3 : ([] ++ (if effW kind = [] then [63] else effW kind) : List UInt8) = z3 at H3 Y3
  clear H2 F2 G2 C2 L2 D2 M2 k3 F1 G1 H1 C1 L1 D1 M1
  simp -dsimp [go_sem, C3, L3, D3, M3]
  refine ⟨hag3, ?_⟩
  refine (report_Effect_lit (w.heap.size + 1) (w.heap.size + 1) (w.heap.size + 2) z3 [105, 110, 111] ino h1 _ (hT.keep K3) H3 (by simp; omega) (by omega) C3 L3).mono ?_; rintro e w4 ⟨rfl, H4, k4⟩; refine ret_intro ?_
  have F4 := OB.blk k4 F3 (by decide) (by omega)
  have G4 := OB.blk k4 G3 (by decide) (by omega)
  have K4 := OB.from K3 k4 (by omega)
  have S4 := Nat.le_trans S3 k4.size
  have C4 := blk_cell F4 0
  have L4 := blk_lt F4
  have D4 := blk_cell G4
  have M4 := blk_lt G4
  simp at C4
  have Y4 : (z3 ++ numL [105, 110, 111] ino).length ≤ 50 := by have := numL_len [105, 110, 111] ino h1; rw [List.length_append]; simp at this; omega
  change Bld _ _ _ _ (z3 ++ numL [105, 110, 111] ino) at H4
  generalize hz4 : z3 ++ numL [105, 110, 111] ino = z4 at H4 Y4
  clear H3 F3 G3 C3 L3 D3 M3 k4
  simp -dsimp [go_sem, C4, L4, D4, M4]
  refine (report_Effect_lit (w.heap.size + 1) (w.heap.size + 1) (w.heap.size + 2) z4 [100, 105, 114] dir h2 _ (hT.keep K4) H4 (by simp; omega) (by omega) C4 L4).mono ?_; rintro e w5 ⟨rfl, H5, k5⟩; refine ret_intro ?_
  have F5 := OB.blk k5 F4 (by decide) (by omega)
  have G5 := OB.blk k5 G4 (by decide) (by omega)
  have K5 := OB.from K4 k5 (by omega)
  have S5 := Nat.le_trans S4 k5.size
  have C5 := blk_cell F5 0
  have L5 := blk_lt F5
  have D5 := blk_cell G5
  have M5 := blk_lt G5
  simp at C5
  have Y5 : (z4 ++ numL [100, 105, 114] dir).length ≤ 90 := by have := numL_len [100, 105, 114] dir h2; rw [List.length_append]; simp at this; omega
  change Bld _ _ _ _ (z4 ++ numL [100, 105, 114] dir) at H5
  generalize hz5 : z4 ++ numL [100, 105, 114] dir = z5 at H5 Y5
  clear H4 F4 G4 C4 L4 D4 M4 k5
  simp -dsimp [go_sem, C5, L5, D5, M5]
  refine (report_Effect_lit (w.heap.size + 1) (w.heap.size + 1) (w.heap.size + 2) z5 [116, 111] to h3 _ (hT.keep K5) H5 (by simp; omega) (by omega) C5 L5).mono ?_; rintro e w6 ⟨rfl, H6, k6⟩; refine ret_intro ?_
  have F6 := OB.blk k6 F5 (by decide) (by omega)
  have G6 := OB.blk k6 G5 (by decide) (by omega)
  have K6 := OB.from K5 k6 (by omega)
  have S6 := Nat.le_trans S5 k6.size
  have C6 := blk_cell F6 0
  have L6 := blk_lt F6
  have D6 := blk_cell G6
  have M6 := blk_lt G6
  simp at C6
  have Y6 : (z5 ++ numL [116, 111] to).length ≤ 130 := by have := numL_len [116, 111] to h3; rw [List.length_append]; simp at this; omega
  change Bld _ _ _ _ (z5 ++ numL [116, 111] to) at H6
  generalize hz6 : z5 ++ numL [116, 111] to = z6 at H6 Y6
  clear H5 F5 G5 C5 L5 D5 M5 k6
  simp -dsimp [go_sem, C6, L6, D6, M6]
  refine (report_Effect_lit (w.heap.size + 1) (w.heap.size + 1) (w.heap.size + 2) z6 [112, 97, 103, 101] page h4 _ (hT.keep K6) H6 (by simp; omega) (by omega) C6 L6).mono ?_; rintro e w7 ⟨rfl, H7, k7⟩; refine ret_intro ?_
  have F7 := OB.blk k7 F6 (by decide) (by omega)
  have G7 := OB.blk k7 G6 (by decide) (by omega)
  have K7 := OB.from K6 k7 (by omega)
  have S7 := Nat.le_trans S6 k7.size
  have C7 := blk_cell F7 0
  have L7 := blk_lt F7
  have D7 := blk_cell G7
  have M7 := blk_lt G7
  simp at C7
  have Y7 : (z6 ++ numL [112, 97, 103, 101] page).length ≤ 170 := by have := numL_len [112, 97, 103, 101] page h4; rw [List.length_append]; simp at this; omega
  change Bld _ _ _ _ (z6 ++ numL [112, 97, 103, 101] page) at H7
  generalize hz7 : z6 ++ numL [112, 97, 103, 101] page = z7 at H7 Y7
  clear H6 F6 G6 C6 L6 D6 M6 k7
  simp -dsimp [go_sem, C7, L7, D7, M7]
  refine (report_Effect_lit (w.heap.size + 1) (w.heap.size + 1) (w.heap.size + 2) z7 [115, 105, 122, 101] size h5 _ (hT.keep K7) H7 (by simp; omega) (by omega) C7 L7).mono ?_; rintro e w8 ⟨rfl, H8, k8⟩; refine ret_intro ?_
  have F8 := OB.blk k8 F7 (by decide) (by omega)
  have G8 := OB.blk k8 G7 (by decide) (by omega)
  have K8 := OB.from K7 k8 (by omega)
  have S8 := Nat.le_trans S7 k8.size
  have C8 := blk_cell F8 0
  have L8 := blk_lt F8
  have D8 := blk_cell G8
  have M8 := blk_lt G8
  simp at C8
  have Y8 : (z7 ++ numL [115, 105, 122, 101] size).length ≤ 210 := by have := numL_len [115, 105, 122, 101] size h5; rw [List.length_append]; simp at this; omega
  change Bld _ _ _ _ (z7 ++ numL [115, 105, 122, 101] size) at H8
  generalize hz8 : z7 ++ numL [115, 105, 122, 101] size = z8 at H8 Y8
  clear H7 F7 G7 C7 L7 D7 M7 k8
  simp -dsimp [go_sem, C8, L8, D8, M8]
  refine (liner_text (w.heap.size + 1) (w.heap.size + 1) z8 [110, 97, 109, 101] name _ H8 (by simp; omega) (by omega)).mono ?_; rintro e w9 ⟨rfl, H9, k9⟩; refine ret_intro ?_
  have F9 := OB.blk k9 F8 (by decide) (by omega)
  have G9 := OB.blk k9 G8 (by decide) (by omega)
  have K9 := OB.from K8 k9 (by omega)
  have S9 := Nat.le_trans S8 k9.size
  have C9 := blk_cell F9 0
  have L9 := blk_lt F9
  have D9 := blk_cell G9
  have M9 := blk_lt G9
  simp at C9
  have Y9 : (z8 ++ partL [110, 97, 109, 101] name).length ≤ 410 := by have := partL_len [110, 97, 109, 101] name; rw [List.length_append]; simp at this; omega
  generalize hz9 : z8 ++ partL [110, 97, 109, 101] name = z9 at H9 Y9
  clear H8 F8 G8 C8 L8 D8 M8 k9
  simp -dsimp [go_sem, C9, L9, D9, M9]
  refine (liner_text (w.heap.size + 1) (w.heap.size + 1) z9 [111, 116, 104, 101, 114] other _ H9 (by simp; omega) (by omega)).mono ?_; rintro e w10 ⟨rfl, H10, k10⟩; refine ret_intro ?_
  have F10 := OB.blk k10 F9 (by decide) (by omega)
  have G10 := OB.blk k10 G9 (by decide) (by omega)
  have K10 := OB.from K9 k10 (by omega)
  have S10 := Nat.le_trans S9 k10.size
  have C10 := blk_cell F10 0
  have L10 := blk_lt F10
  have D10 := blk_cell G10
  have M10 := blk_lt G10
  simp at C10
  have Y10 : (z9 ++ partL [111, 116, 104, 101, 114] other).length ≤ 610 := by have := partL_len [111, 116, 104, 101, 114] other; rw [List.length_append]; simp at this; omega
  generalize hz10 : z9 ++ partL [111, 116, 104, 101, 114] other = z10 at H10 Y10
  clear H9 F9 G9 C9 L9 D9 M9 k10
  simp -dsimp [go_sem, C10, L10, D10, M10]
  refine (report_Effect_lit (w.heap.size + 1) (w.heap.size + 1) (w.heap.size + 2) z10 [98, 121, 116, 101, 115] data.length ⟨by omega, by omega⟩ _ (hT.keep K10) H10 (by simp; omega) (by omega) C10 L10).mono ?_; rintro e w11 ⟨rfl, H11, k11⟩; refine ret_intro ?_
  have F11 := OB.blk k11 F10 (by decide) (by omega)
  have G11 := OB.blk k11 G10 (by decide) (by omega)
  have K11 := OB.from K10 k11 (by omega)
  have S11 := Nat.le_trans S10 k11.size
  have C11 := blk_cell F11 0
  have L11 := blk_lt F11
  have D11 := blk_cell G11
  have M11 := blk_lt G11
  simp at C11
  change Bld _ _ _ _ (z10 ++ numL [98, 121, 116, 101, 115] data.length) at H11
  simp -dsimp [go_sem, C11, L11, D11, M11]
  refine (builder_String _ (w.heap.size + 1) (w.heap.size + 1) liner_T _ _ H11 (by omega)).mono ?_; rintro e w12 ⟨rfl, k12⟩; refine ret_intro ?_
  simp -dsimp [go_sem]
  have KK := OB.from K11 k12 (by omega)
  refine ⟨?_, KK⟩
  rw [← hz10, ← hz9, ← hz8, ← hz7, ← hz6, ← hz5, ← hz4, ← hz3]
  unfold orL
  simp only [List.nil_append, List.append_assoc]
/-- A name that is left out at a 0. -/
theorem law_part_num (name s : List UInt8) (hn : name.length ≤ 100) (hs : s.length ≤ 1000) (n1 : name ≠ [112, 97, 116, 104]) (n2 : name ≠ [111, 116, 104, 101, 114]) (n3 : name ≠ [110, 97, 109, 101]) (w : World) :
    Calls Tryd.prog 13 #[.string (txt name), .string (txt s)] w fun e w' => e = .returned (.string (txt (if s = [48] then [] else partL name s))) ∧ w = w' := by
  refine calls_rx h13 Tryd.func13 rfl Tryd.mixed (by kernel_rfl) Tryd.results13 ?_
  have q1 : ¬ 9223372036854775807 < 1 + name.length := by omega
  have q2 : ¬ 9223372036854775807 < name.length + 1 + 1 := by omega
  have q3 : ¬ 9223372036854775807 < name.length + 1 + 1 + s.length := by omega
  unfold partL
  by_cases h1 : s = []
  · simp -dsimp [go_sem, h1]
  · by_cases h2 : s = [48]
    · simp -dsimp [go_sem, h1, h2, n1, n2, n3]
    · simp -dsimp [go_sem, h1, h2, n1, n2, n3, q1, q2, q3]
theorem law_part_txt (name s : List UInt8) (hn : name.length ≤ 100) (hs : s.length ≤ 1000) (hne : name = [112, 97, 116, 104] ∨ name = [111, 116, 104, 101, 114] ∨ name = [110, 97, 109, 101]) (w : World) :
    Calls Tryd.prog 13 #[.string (txt name), .string (txt s)] w fun e w' => e = .returned (.string (txt (partL name s))) ∧ w = w' := by
  refine calls_rx h13 Tryd.func13 rfl Tryd.mixed (by kernel_rfl) Tryd.results13 ?_
  have q1 : ¬ 9223372036854775807 < 1 + name.length := by omega
  have q2 : ¬ 9223372036854775807 < name.length + 1 + 1 := by omega
  have q3 : ¬ 9223372036854775807 < name.length + 1 + 1 + s.length := by omega
  have q6 : ¬ 9223372036854775807 < 6 + s.length := by omega
  have q7 : ¬ 9223372036854775807 < 7 + s.length := by omega
  unfold partL
  by_cases h1 : s = []
  · simp -dsimp [go_sem, h1]
  · rcases hne with rfl | rfl | rfl
    · simp -dsimp [go_sem, h1, q6]
    · simp -dsimp [go_sem, h1, q7]
    · simp -dsimp [go_sem, h1, q6]
theorem law_small (v : Value) (l : List Int) (w : World) (h : Sl rInt (fun _ => False) w v l) :
    Calls Tryd.prog 8 #[v] w fun e w' => (∃ b, e = .returned (.bool b)) ∧ Keep w w' := by
  obtain ⟨a, c, rfl, -⟩ := id h
  have hm := h.len
  unfold maxLen at hm
  refine calls_rx h8 Tryd.func8 rfl Tryd.mixed (by kernel_rfl) Tryd.results8 ?_
  simp -dsimp [go_sem]
  refine loop_intro (σ := Nat) (fun i => [.int .i64 i]) (fun i w' => i ≤ l.length ∧ Keep w w') (fun i => l.length - i) 0 (by simp -dsimp [go_sem]; rfl) (by simp -dsimp [go_sem]) ⟨by simp, Keep.refl w⟩ ?_
  rintro i w1 ⟨hi, k1⟩
  simp -dsimp [go_sem]
  refine condF_intro (fun g1 => ?_) (fun g1 => ?_)
  · simp at g1
    have hx : l[i]? = some l[i] := List.getElem?_eq_getElem _
    generalize l[i] = x at hx
    obtain ⟨b, off, c', e, hb, -, c0, -⟩ := (h.keep k1).int hx
    cases e
    have i2 : (i : Int) < l.length := by omega
    by_cases q1 : x < -1152921504606846976
    · simp -dsimp [go_sem, i2, hb, c0, q1]
      exact k1
    · by_cases q2 : 1152921504606846976 < x
      · simp -dsimp [go_sem, i2, hb, c0, q1, q2]
        exact k1
      · simp -dsimp [go_sem, i2, hb, c0, q1, q2]
        try simp -dsimp (disch := omega) only [IntWalk.i64_in, IntWalk.u64_in, IntWalk.u8_in]
        exact back_intro (i + 1) (by simp -dsimp [go_sem]) (by simp -dsimp [go_sem]) ⟨by omega, k1⟩ (by omega)
  · simp at g1
    simp -dsimp [go_sem]
    exact k1
theorem few23 (v : Value) (l : List Item) (w : World) (h : Sl rItem (fun _ => False) w v l) :
    Calls Tryd.prog 6 #[v] w fun e w' => ∃ b, e = .returned (.bool b) ∧ (b = true → l.length ≤ 30 ∧ ∀ x ∈ l, x.data.length ≤ 300 ∧ x.path.size ≤ 200) ∧ Keep w w' := by
  obtain ⟨a, c, rfl, -⟩ := id h
  have hm := h.len
  unfold maxLen at hm
  refine calls_rx h6 Tryd.func6 rfl Tryd.mixed (by kernel_rfl) Tryd.results6 ?_
  simp -dsimp [go_sem]
  refine loop_intro (σ := Nat) (fun i => [.int .i64 i]) (fun i w' => i ≤ l.length ∧ Keep w w' ∧ ∀ k < i, ∀ x, l[k]? = some x → x.data.length ≤ 300 ∧ x.path.size ≤ 200) (fun i => l.length - i) 0 (by simp -dsimp [go_sem]; rfl) (by simp -dsimp [go_sem]) ⟨by simp, Keep.refl w, by simp⟩ ?_
  rintro i w1 ⟨hi, k1, hk⟩
  simp -dsimp [go_sem]
  refine condF_intro (fun g1 => ?_) (fun g1 => ?_)
  · simp at g1
    have hx : l[i]? = some l[i] := List.getElem?_eq_getElem _
    generalize l[i] = x at hx
    obtain ⟨b, off, c', d, e, hb, -, -, hd, c0, c1, c2, c3, c4⟩ := (h.keep k1).item hx
    cases e
    obtain ⟨da, dc, rfl, -⟩ := id hd
    have i2 : (i : Int) < l.length := by omega
    by_cases q1 : 300 < x.data.length
    · have q1' : 300 < (x.data.length : Int) := by omega
      simp -dsimp [go_sem, i2, hb, c0, c1, c2, c3, c4, q1, q1']
      exact k1.alloc _
    by_cases q2 : 200 < x.path.size
    · have q1' : ¬ 300 < (x.data.length : Int) := by omega
      have q2' : 200 < (x.path.size : Int) := by omega
      simp -dsimp [go_sem, i2, hb, c0, c1, c2, c3, c4, q1, q1', q2, q2']
      exact k1.alloc _
    have q1' : ¬ 300 < (x.data.length : Int) := by omega
    have q2' : ¬ 200 < (x.path.size : Int) := by omega
    simp -dsimp [go_sem, i2, hb, c0, c1, c2, c3, c4, q1, q1', q2, q2']
    try simp -dsimp (disch := omega) only [IntWalk.i64_in, IntWalk.u64_in, IntWalk.u8_in]
    refine back_intro (i + 1) (by simp -dsimp [go_sem]) (by simp -dsimp [go_sem]) ⟨by omega, k1.alloc _, fun k hk' => ?_⟩ (by omega)
    by_cases hki : k = i
    · subst hki; intro y hy; rw [hx] at hy; cases hy; omega
    · exact hk k (by omega)
  · simp at g1
    simp -dsimp [go_sem]
    refine ⟨fun q => ⟨by omega, fun x hx => ?_⟩, k1⟩
    obtain ⟨j, hj, rfl⟩ := List.mem_iff_getElem.1 hx
    exact hk j (by omega) _ (List.getElem?_eq_getElem _)
end Go.Proofs.YtdfjfagljngciaaDoor
