/- Package report, and what its statements lean on: numbers as texts, lines. -/
import Derived.Test.YtdfjfagljngciaaDoorBld
import Derived.Test.YtdfjfagljngciaaDoorShelf
import Derived.Lib.AppendIntMem
set_option linter.all false
namespace Go.Proofs.YtdfjfagljngciaaDoor
open Go.RowKit Rx

/-- The table that strconv reads. -/
def Tab (w : World) : Prop := Lib.TabIs Tryd.prog w "internal/strconv.uint64pow10" .u64 Lib.pow10Tab
theorem Tab.keep {w w' : World} (h : Tab w) (k : Keep w w') : Tab w' := by
  unfold Tab Lib.TabIs World.var? at h ⊢
  cases hg : Tryd.prog.globalNamed "internal/strconv.uint64pow10" with
  | none => rw [hg] at h; cases h
  | some g =>
    rw [hg] at h
    simp only [Option.bind_some] at h ⊢
    cases hb : w.heap[g]? with
    | none => rw [hb] at h; cases h
    | some o => rw [k.blk hb (fun q => q)]; rw [hb] at h; exact h

def txt (l : List UInt8) : ByteArray := ⟨l.toArray⟩
theorem txt_append (a b : List UInt8) : txt a ++ txt b = txt (a ++ b) := by
  apply ByteArray.ext
  simp [txt, ByteArray.data_append]
theorem txt_list (s : ByteArray) : txt s.data.toList = s := by simp [txt]
theorem txt_data (l : List UInt8) : (txt l).data.toList = l := by simp [txt]
theorem txt_size (l : List UInt8) : (txt l).size = l.length := by simp [txt, ByteArray.size]
theorem txt_inj (a b : List UInt8) : (txt a = txt b) = (a = b) := by
  apply propext
  constructor
  · intro h; have := congrArg (fun s : ByteArray => s.data.toList) h; simpa [txt] using this
  · intro h; rw [h]
@[go_sem] theorem mk_txt (l : List UInt8) : (⟨l.toArray⟩ : ByteArray) = txt l := rfl
@[go_sem] theorem empty_txt : ByteArray.empty = txt [] := rfl
attribute [go_sem] txt_inj txt_append txt_size
theorem of_txt (s : ByteArray) : ∃ l, s = txt l := ⟨s.data.toList, (txt_list s).symm⟩
/-- Bytes as a string. -/
theorem Sl.string {P : Program} {X : Nat → Prop} {w : World} {v : Value} {l : List UInt8} (h : Sl rByte X w v l) {t s e : TypeId} (ht : P.underlying t = some (.slice e)) (hs : P.underlying s = some .string) (he : P.underlying e = some (.int .u8)) :
    (convert t s v).run P w = .ok (.string (txt l)) w := by
  obtain ⟨a, c, rfl, -, -, h⟩ := h
  have hc : (Conv.bytesToString (.slice a l.length c)).run P w = .ok (.string (txt l)) w := by
    have hfold : ∀ (l : List UInt8) (s : ByteArray), (l.map (fun x => (x.toNat : Int))).foldl (fun r n => r.push (UInt8.ofNat n.toNat)) s = ⟨s.data ++ l.toArray⟩ := by
      intro l
      induction l with
      | nil => intro s; simp
      | cons x r ih => intro s; rw [List.map_cons, List.foldl_cons, ih]; simp [ByteArray.push]
    cases a with
    | none =>
      have : l = [] := by
        cases l with
        | nil => rfl
        | cons x r => obtain ⟨_, _, e, _⟩ := h (by simp); cases e
      subst this; rfl
    | some ad =>
      have hl : (loadCells ad (l.map (fun x => (x.toNat : Int))).length).run P w = .ok ((l.map (fun x => (x.toNat : Int))).map (Value.int .u8)).toArray w := by
        have := run_loadCells_list (P := P) (w := w) ad ((l.map (fun x => (x.toNat : Int))).map (Value.int .u8)) (fun j u hu => ?_)
        · simpa using this
        · simp only [List.map_map, List.getElem?_map, Option.map_eq_some_iff] at hu
          obtain ⟨x, hx, rfl⟩ := hu
          obtain ⟨b, off, e, hb, -, hc⟩ := h (by have := (List.getElem?_eq_some_iff.1 hx).1; omega)
          cases e
          obtain ⟨cs, rfl, h3⟩ := hc j x hx
          simpa [Addr.add_mid, rByte, repOf] using h3 0 _ rfl
      rw [List.length_map] at hl
      rw [run_bytesToString w _ _ _ _ hl, hfold]
      simp [txt]
  simp [convert, Sem.run_bind, run_underlying ht, run_underlying hs, run_underlying he, hc]
def dec (n : Int) : List UInt8 := Lib.itoa n

theorem itoa (n : Int) (hn : I64 n) (w : World) (hT : Tab w) :
    Calls Tryd.prog 23 #[.int .i64 n] w fun e w' => e = .returned (.string (txt (dec n))) ∧ Keep w w' := by
  refine (Go.Proofs.Tryd.strconv_Itoa n hn.1 hn.2 w hT).mono ?_
  rintro e w' ⟨rfl, k, os, rfl⟩
  exact ⟨rfl, Step.of_below (Go.Lib.below_grow _ w (Nat.le_refl _) k os)⟩

theorem report_kind (k : Int) (w : World) : Calls Tryd.prog 22 #[.int .i64 k] w fun e w' => e = .returned (.string (txt (if k = 2 then [100] else if k = 1 then [45] else [63]))) ∧ w = w' := by
  refine calls_rx h22 Tryd.func22 rfl Tryd.mixed (by kernel_rfl) Tryd.results22 ?_
  by_cases h1 : k = 2
  · simp -dsimp [go_sem, h1]
  · by_cases h2 : k = 1
    · simp -dsimp [go_sem, h1, h2]
    · simp -dsimp [go_sem, h1, h2]
theorem law_or (s : List UInt8) (w : World) : Calls Tryd.prog 11 #[.string (txt s)] w fun e w' => e = .returned (.string (txt (if s = [] then [63] else s))) ∧ w = w' := by
  refine calls_rx h11 Tryd.func11 rfl Tryd.mixed (by kernel_rfl) Tryd.results11 ?_
  by_cases h1 : s = []
  · subst h1
    simp -dsimp [go_sem]
  · simp -dsimp [go_sem, h1]
theorem dec_eq (n : Int) : dec n = (if n < 0 then [45] else []) ++ Lib.decDigits n.natAbs := by
  unfold dec Lib.itoa
  by_cases h : n < 0
  · rw [if_pos h, if_pos h]; rfl
  · rw [if_neg h, if_neg h, show n.toNat = n.natAbs from by omega]; rfl
theorem decDigits_len : ∀ (k N : Nat), N < 10 ^ (k + 1) → (Lib.decDigits N).length ≤ k + 1
  | 0, N, h => by rw [Lib.decDigits, dif_pos (by simpa using h)]; simp
  | k + 1, N, h => by
    rw [Lib.decDigits]
    by_cases h1 : N < 10
    · rw [dif_pos h1]; simp
    · rw [dif_neg h1, List.length_append]
      have := decDigits_len k (N / 10) (by rw [Nat.div_lt_iff_lt_mul (by omega)]; rw [Nat.pow_succ] at h; exact h)
      simp; omega
theorem dec_len (n : Int) (hn : I64 n) : (dec n).length ≤ 21 := by
  obtain ⟨h1, h2⟩ := hn
  rw [dec_eq, List.length_append]
  have := decDigits_len 19 n.natAbs (by omega)
  have : (if n < 0 then ([45] : List UInt8) else []).length ≤ 1 := by split <;> simp
  omega
theorem law_decimal (n : Int) (hn : I64 n) (w : World) : Calls Tryd.prog 9 #[.int .i64 n] w fun e w' => e = .returned (.string (txt (dec n))) ∧ Keep w w' := by
  obtain ⟨hn1, hn2⟩ := hn
  rw [dec_eq]
  refine calls_rx h9 Tryd.func9 rfl Tryd.mixed (by kernel_rfl) Tryd.results9 ?_
  simp -dsimp [go_sem]
  refine join_intro (σ := Unit) (fun _ => [.int .u64 n.natAbs, .string (txt (if n < 0 then [45] else []))]) (fun _ w' => w' = w) (by simp -dsimp [go_sem]; rfl) ?_ ?_
  · by_cases h1 : n < 0
    · have e1 : IntKind.i64.wrap (n + 1) = n + 1 := IntWalk.i64_in _ (by omega)
      have e2 : IntKind.i64.wrap (-(n + 1)) = -(n + 1) := IntWalk.i64_in _ (by omega)
      have e3 : IntKind.u64.wrap (-(n + 1)) = -(n + 1) := IntWalk.u64_in _ (by omega)
      have e4 : IntKind.u64.wrap (-(n + 1) + 1) = (n.natAbs : Int) := by rw [IntWalk.u64_in _ (by omega)]; omega
      simp -dsimp [go_sem, h1, e1, e2, e3, e4]
      exact meet_intro () (by simp -dsimp [go_sem, h1]) (by simp -dsimp [go_sem]) rfl
    · have e1 : IntKind.u64.wrap n = (n.natAbs : Int) := by rw [IntWalk.u64_in _ (by omega)]; omega
      simp -dsimp [go_sem, h1]
      exact meet_intro () (by simp -dsimp [go_sem, h1, e1]) (by simp -dsimp [go_sem]) rfl
  rintro _ w' rfl
  have hsg : (if n < 0 then ([45] : List UInt8) else []).length ≤ 1 := by split <;> simp
  generalize (if n < 0 then ([45] : List UInt8) else []) = sg at hsg ⊢
  have hN : n.natAbs ≤ 9223372036854775808 := by omega
  generalize n.natAbs = N at hN ⊢
  simp -dsimp [go_sem]
  refine loop_intro (σ := Nat × List UInt8) (fun s => [.int .u64 s.1, .string (txt s.2)]) (fun s w => s.1 ≤ 9223372036854775808 ∧ Lib.decDigits N = Lib.decDigits s.1 ++ s.2 ∧ Keep w' w) (fun s => s.1) (N, []) (by simp -dsimp [go_sem]; rfl) (by simp -dsimp [go_sem]) ⟨hN, by simp, Keep.refl _⟩ ?_
  rintro ⟨u, ds⟩ w1 ⟨hu, hd, k1⟩
  simp only at hu hd
  have em : (u : Int).tmod 10 = (u : Int) % 10 := Int.tmod_eq_emod_of_nonneg (by omega)
  have ed : (u : Int).tdiv 10 = (u : Int) / 10 := Int.tdiv_eq_ediv_of_nonneg (by omega)
  have e1 : IntKind.u64.wrap (48 + (u : Int) % 10) = 48 + (u : Int) % 10 := IntWalk.u64_in _ (by omega)
  have hd2 : Lib.decDigits u = (if u < 10 then [] else Lib.decDigits (u / 10)) ++ [UInt8.ofNat (48 + u % 10)] := by
    rw [Lib.decDigits]
    by_cases h : u < 10
    · rw [dif_pos h, if_pos h, Nat.mod_eq_of_lt h]; rfl
    · rw [dif_neg h, if_neg h]
  have e2 : IntKind.u8.wrap (48 + (u : Int) % 10) = ((UInt8.ofNat (48 + u % 10)).toNat : Int) := by rw [IntWalk.u8_in _ (by omega), UInt8.toNat_ofNat']; omega
  generalize UInt8.ofNat (48 + u % 10) = c at hd2 e2
  have hv : ∀ w : World, (convert 23 9 (.slice (some ⟨w.heap.size, 0, none⟩) 1 1)).run Tryd.prog (w.alloc (.cells #[.int .u8 (c.toNat : Int)] 5)) = .ok (.string (txt [c])) (w.alloc (.cells #[.int .u8 (c.toNat : Int)] 5)) := fun w => by
    refine Sl.string (X := fun _ => False) (l := [c]) ⟨_, _, rfl, by simp, by unfold maxLen; omega, fun _ => ⟨_, _, rfl, by simp, id, fun i x hx => ?_⟩⟩ Tryd.underlying23 Tryd.underlying9 Tryd.underlying5
    have hi : i = 0 := by have := (List.getElem?_eq_some_iff.1 hx).1; simp at this; exact this
    subst hi
    simp only [List.getElem?_cons_zero, Option.some.injEq] at hx
    subst hx
    refine ⟨_, rfl, fun j u hu => ?_⟩
    rw [blk_cell (heap_alloc_new w _)]
    simpa [rByte, repOf] using hu
  have hs20 : ds.length ≤ 20 := by
    have h1 := congrArg List.length hd
    rw [List.length_append] at h1
    have := decDigits_len 19 N (by omega)
    omega
  have hs : ¬ 9223372036854775807 < 1 + ds.length := by omega
  have e5 : IntKind.u64.wrap ((u : Int) / 10) = (u : Int) / 10 := IntWalk.u64_in _ (by omega)
  have e6 : IntKind.u64.wrap 0 = 0 := by decide
  by_cases h10 : u < 10
  · have h0 : (u : Int) / 10 = 0 := by omega
    rw [hd2, if_pos h10] at hd
    have hs2 : ¬ 9223372036854775807 < sg.length + (ds.length + 1) := by omega
    simp at hd
    simp -dsimp [go_sem, em, ed, e1, e2, hv, h0, e6, hd, hs, hs2]
    exact k1.alloc _
  · have h0 : ¬ (u : Int) / 10 = 0 := by omega
    rw [hd2, if_neg h10, List.append_assoc] at hd
    simp -dsimp [go_sem, em, ed, e1, e2, hv, h0, e5, hs]
    exact back_intro (u / 10, c :: ds) (by simp -dsimp [go_sem, e5]) (by simp -dsimp [go_sem]) ⟨by show u / 10 ≤ _; omega, hd, k1.alloc _⟩ (by show u / 10 < u; omega)
/-- The words of kinds of effects. -/
def effW (k : Int) : List UInt8 :=
  if k = 1 then [109, 97, 107, 101] else if k = 2 then [108, 105, 110, 107] else if k = 3 then [117, 110, 108, 105, 110, 107] else if k = 4 then [114, 109, 100, 105, 114] else
  if k = 5 then [114, 101, 110, 97, 109, 101] else if k = 6 then [116, 114, 117, 110, 99] else if k = 7 then [119, 114, 105, 116, 101] else if k = 8 then [100, 114, 111, 112] else []
def aggN (P : Program) (e : TypeId) : Bool := match P.underlying e with
  | some (.struct _) => false
  | some (.array _ _) => false
  | some _ => true
  | none => false
theorem run_aggN {P : Program} {e : TypeId} (h : aggN P e = true) (w : World) : (isAgg e).run P w = .ok false w := by
  unfold aggN at h
  split at h <;> try cases h
  rename_i d h1 h2 hu
  cases d <;> simp_all [isAgg, run_underlying hu]
/-- A cell of an array that is a value. -/
theorem run_index_cell {P : Program} {t e : TypeId} {len : Nat} (hu : P.underlying t = some (.array len e)) (he : aggN P e = true) (hs : (P.info? e).map (·.size) = some 1) (cs : List Value) (i : Nat) (x : Value) (hx : cs[i]? = some x) (hi : i < len) (w : World) :
    (Instr.index t (.agg cs.toArray) (.int .i64 i)).run P w = .ok x w := by
  have hsz : (sizeOf e).run P w = .ok 1 w := by
    cases hq : P.info? e with
    | none => simp [hq] at hs
    | some inf => simp [sizeOf, typeInfo, hq] at hs ⊢; exact hs
  have ha := run_aggN he w
  simp [Instr.index, asIntOf, Sem.run_bind, run_underlying hu, hsz, part, ha, hi, hx]
theorem effect_words (w : World) : Calls Tryd.prog 24 #[] w fun e w' => e = .returned (.agg #[.string (txt []), .string (txt [109, 97, 107, 101]), .string (txt [108, 105, 110, 107]), .string (txt [117, 110, 108, 105, 110, 107]), .string (txt [114, 109, 100, 105, 114]), .string (txt [114, 101, 110, 97, 109, 101]), .string (txt [116, 114, 117, 110, 99]), .string (txt [119, 114, 105, 116, 101]), .string (txt [100, 114, 111, 112])]) ∧ Keep w w' := by
  refine calls_rx h24 Tryd.func24 rfl Tryd.mixed (by kernel_rfl) Tryd.results24 ?_
  simp -dsimp [go_sem]
  exact keep_alloc w _
theorem effect_Word (k : Int) (w : World) : Calls Tryd.prog 12 #[.int .i64 k] w fun e w' => e = .returned (.string (txt (effW k))) ∧ Keep w w' := by
  refine calls_rx h12 Tryd.func12 rfl Tryd.mixed (by kernel_rfl) Tryd.results12 ?_
  by_cases h1 : k < 0
  · have : effW k = [] := by unfold effW; repeat rw [if_neg (by omega)]
    simp -dsimp [go_sem, h1, this]
    exact Keep.refl w
  by_cases h2 : 9 ≤ k
  · have : effW k = [] := by unfold effW; repeat rw [if_neg (by omega)]
    simp -dsimp [go_sem, h1, h2, this]
    exact Keep.refl w
  simp -dsimp [go_sem, h1, h2]
  refine (effect_words w).mono ?_; rintro e w1 ⟨rfl, k1⟩; refine ret_intro ?_
  obtain ⟨j, rfl⟩ := Int.eq_ofNat_of_zero_le (by omega : 0 ≤ k)
  have hix : ∀ w, (Instr.index 56 (.agg #[.string (txt []), .string (txt [109, 97, 107, 101]), .string (txt [108, 105, 110, 107]), .string (txt [117, 110, 108, 105, 110, 107]), .string (txt [114, 109, 100, 105, 114]), .string (txt [114, 101, 110, 97, 109, 101]), .string (txt [116, 114, 117, 110, 99]), .string (txt [119, 114, 105, 116, 101]), .string (txt [100, 114, 111, 112])]) (.int .i64 (j : Int))).run Tryd.prog w = .ok (.string (txt (effW j))) w := fun w => by
    refine run_index_cell Tryd.underlying56 (by kernel_rfl) (by kernel_rfl) [.string (txt []), .string (txt [109, 97, 107, 101]), .string (txt [108, 105, 110, 107]), .string (txt [117, 110, 108, 105, 110, 107]), .string (txt [114, 109, 100, 105, 114]), .string (txt [114, 101, 110, 97, 109, 101]), .string (txt [116, 114, 117, 110, 99]), .string (txt [119, 114, 105, 116, 101]), .string (txt [100, 114, 111, 112])] j _ ?_ (by omega) w
    rcases (by omega : j = 0 ∨ j = 1 ∨ j = 2 ∨ j = 3 ∨ j = 4 ∨ j = 5 ∨ j = 6 ∨ j = 7 ∨ j = 8) with rfl | rfl | rfl | rfl | rfl | rfl | rfl | rfl | rfl <;> rfl
  simp -dsimp [go_sem, hix]
  exact k1
theorem report_Item (p : ByteArray) (ino kind size : Int) (d : Value) (hi : I64 ino) (hs : I64 size) (hp : p.size ≤ 200) (w : World) (hT : Tab w) :
    Calls Tryd.prog 10 #[.agg #[.string p, .int .i64 ino, .int .i64 kind, .int .i64 size, d]] w fun e w' => e = .returned (.string (txt ((if kind = 2 then [100] else if kind = 1 then [45] else [63]) ++ [32] ++ dec ino ++ [32] ++ dec size ++ [32] ++ p.data.toList))) ∧ Keep w w' := by
  obtain ⟨p, rfl⟩ := of_txt p
  rw [txt_size] at hp
  rw [txt_data]
  refine calls_rx h10 Tryd.func10 rfl Tryd.mixed (by kernel_rfl) Tryd.results10 ?_
  simp -dsimp [go_sem]
  have k1 := keep_alloc w (Obj.cells #[.string (txt p), .int .i64 ino, .int .i64 kind, .int .i64 size, d] 32)
  have n1 := heap_alloc_new w (Obj.cells #[.string (txt p), .int .i64 ino, .int .i64 kind, .int .i64 size, d] 32)
  generalize hb : w.heap.size = b at n1 ⊢
  generalize w.alloc _ = w1 at k1 n1 ⊢
  refine (report_kind kind _).mono ?_; rintro e w2 ⟨rfl, rfl⟩; refine ret_intro ?_
  have hc1 := blk_cell n1
  have hl1 := blk_lt n1
  simp -dsimp [go_sem, hc1, hl1]
  refine ⟨agree_drew (Agree.refl _), ?_⟩
  refine (itoa ino hi _ ((hT.keep k1).keep (keep_drew _))).mono ?_; rintro e w2 ⟨rfl, k2⟩; refine ret_intro ?_
  have k12 := Keep.trans (keep_drew w1) k2
  simp -dsimp [go_sem, hc1, hl1]
  refine ⟨Keep.agree k12 (Agree.refl _), ?_⟩
  refine (itoa size hs _ ((hT.keep k1).keep k12)).mono ?_; rintro e w3 ⟨rfl, k3⟩; refine ret_intro ?_
  have k13 := Keep.trans k12 k3
  generalize hkw : (if kind = 2 then ([100] : List UInt8) else if kind = 1 then [45] else [63]) = kw
  simp -dsimp [go_sem, hc1, hl1]
  refine ⟨Keep.agree k13 (Agree.refl _), Keep.agree (Step.alloc k13 _) (Agree.refl _), ?_⟩
  have hd1 := dec_len ino hi
  have hd2 := dec_len size hs
  have hkl : kw.length = 1 := by rw [← hkw]; repeat' split
                                 all_goals rfl
  have hj : Lib.join ([txt kw, txt (dec ino), txt (dec size), txt p].map (·.data.toList)) (txt [32]).data.toList = kw ++ [32] ++ dec ino ++ [32] ++ dec size ++ [32] ++ p := by
    simp [Lib.join, txt_data, List.intercalate]
  have hcells := blk_cell (heap_alloc_new w3 (Obj.cells #[.string (txt kw), .string (txt (dec ino)), .string (txt (dec size)), .string (txt p)] 9))
  have hJ := Go.Proofs.Tryd.strings_Join w3.heap.size 0 4 [txt kw, txt (dec ino), txt (dec size), txt p] (txt [32]) (w3.alloc (Obj.cells #[.string (txt kw), .string (txt (dec ino)), .string (txt (dec size)), .string (txt p)] 9))
    (fun j x hx => by rw [Nat.zero_add, hcells]; rw [List.getElem?_eq_some_iff] at hx; obtain ⟨hj, rfl⟩ := hx; simp at hj; rcases (by omega : j = 0 ∨ j = 1 ∨ j = 2 ∨ j = 3) with rfl | rfl | rfl | rfl <;> rfl) (by simp) (by simp) (by simp) (by rw [hj]; simp; omega)
  rw [hj] at hJ
  refine hJ.mono ?_; rintro e w4 ⟨rfl, hb4⟩; refine ret_intro ?_
  have k4 := Step.of_below hb4
  have kk := Keep.trans (Step.alloc k13 _) k4
  simp -dsimp [go_sem]
  exact ⟨Keep.agree kk (Agree.refl _), Keep.trans k1 kk⟩
theorem liner_T : BldT 68 := ⟨by kernel_rfl, by decide⟩
theorem liner_begin (B b : Nat) (l s : List UInt8) (w : World) (h : Bld w 68 B b l) (hlen : l.length + s.length ≤ 100000) (hB : B ≤ w.heap.size) :
    Calls Tryd.prog 29 #[.pointer (some ⟨b, 0, none⟩), .string (txt s)] w fun e w' => e = .returned (.tuple #[]) ∧ Bld w' 68 B b (l ++ if s = [] then [63] else s) ∧ Step (OB B b w) w w' := by
  refine calls_rx h29 Tryd.func29 rfl Tryd.mixed (by kernel_rfl) Tryd.results29 ?_
  by_cases h1 : s = []
  · subst h1
    simp -dsimp [go_sem]
    refine (builder_WriteString _ B b liner_T l (txt [63]) w h (by rw [txt_size]; simp at hlen ⊢; omega) hB).mono ?_; rintro e w1 ⟨rfl, h1, k1⟩; refine ret_intro ?_
    rw [txt_data] at h1
    simp -dsimp [go_sem]
    exact ⟨h1, k1⟩
  · simp -dsimp [go_sem, h1]
    refine (builder_WriteString _ B b liner_T l (txt s) w h (by rw [txt_size]; omega) hB).mono ?_; rintro e w1 ⟨rfl, h2, k1⟩; refine ret_intro ?_
    rw [txt_data] at h2
    simp -dsimp [go_sem, h1]
    exact ⟨h2, k1⟩
def partL (name s : List UInt8) : List UInt8 := if s = [] then [] else [32] ++ name ++ [61] ++ s
theorem liner_text (B b : Nat) (l name s : List UInt8) (w : World) (h : Bld w 68 B b l) (hlen : l.length + name.length + s.length ≤ 100000) (hB : B ≤ w.heap.size) :
    Calls Tryd.prog 30 #[.pointer (some ⟨b, 0, none⟩), .string (txt name), .string (txt s)] w fun e w' => e = .returned (.tuple #[]) ∧ Bld w' 68 B b (l ++ partL name s) ∧ Step (OB B b w) w w' := by
  refine calls_rx h30 Tryd.func30 rfl Tryd.mixed (by kernel_rfl) Tryd.results30 ?_
  unfold partL
  by_cases h1 : s = []
  · subst h1
    simp -dsimp [go_sem]
    exact ⟨h, Step.refl _ _⟩
  · have q1 : ¬ 9223372036854775807 < 1 + name.length := by omega
    have q2 : ¬ 9223372036854775807 < name.length + 1 + 1 := by omega
    have q3 : ¬ 9223372036854775807 < name.length + 1 + 1 + s.length := by omega
    have q2' : ¬ 9223372036854775807 < 1 + (name.length + 1) := by omega
    simp -dsimp [go_sem, h1, q1, q2, q3, q2']
    refine (builder_WriteString _ B b liner_T l (txt (32 :: (name ++ 61 :: s))) w h (by rw [txt_size]; simp; omega) hB).mono ?_; rintro e w1 ⟨rfl, h2, k1⟩; refine ret_intro ?_
    rw [txt_data] at h2
    simp -dsimp [go_sem, h1]
    exact ⟨h2, k1⟩
theorem liner_num (B b : Nat) (l name : List UInt8) (n : Int) (hn : I64 n) (w : World) (hT : Tab w) (h : Bld w 68 B b l) (hlen : l.length + name.length ≤ 90000) (hB : B ≤ w.heap.size) :
    Calls Tryd.prog 28 #[.pointer (some ⟨b, 0, none⟩), .string (txt name), .int .i64 n] w fun e w' => e = .returned (.tuple #[]) ∧ Bld w' 68 B b (l ++ if n = 0 then [] else partL name (dec n)) ∧ Step (OB B b w) w w' := by
  refine calls_rx h28 Tryd.func28 rfl Tryd.mixed (by kernel_rfl) Tryd.results28 ?_
  by_cases h1 : n = 0
  · simp -dsimp [go_sem, h1]
    exact ⟨h, Step.refl _ _⟩
  · simp -dsimp [go_sem, h1]
    refine (itoa n hn _ hT).mono ?_; rintro e w1 ⟨rfl, k1⟩; refine ret_intro ?_
    have hdl := dec_len n hn
    simp -dsimp [go_sem]
    refine (liner_text B b l name (dec n) _ (h.keep k1) (by omega) (Nat.le_trans hB k1.size)).mono ?_; rintro e w2 ⟨rfl, h2, k2⟩; refine ret_intro ?_
    simp -dsimp [go_sem, h1]
    exact ⟨h2, OB.keep k1 k2⟩
theorem report_Effect_lit (B b c : Nat) (l name : List UInt8) (n : Int) (hn : I64 n) (w : World) (hT : Tab w) (h : Bld w 68 B b l) (hlen : l.length + name.length ≤ 90000) (hB : B ≤ w.heap.size)
    (hc : w.cell? ⟨c, 0, none⟩ = some (.pointer (some ⟨b, 0, none⟩))) (hcl : c < w.heap.size) :
    Calls Tryd.prog 27 #[.string (txt name), .int .i64 n, .pointer (some ⟨c, 0, none⟩)] w fun e w' => e = .returned (.tuple #[]) ∧ Bld w' 68 B b (l ++ if n = 0 then [] else partL name (dec n)) ∧ Step (OB B b w) w w' := by
  refine calls_rx h27 Tryd.func27 rfl Tryd.mixed (by kernel_rfl) Tryd.results27 ?_
  simp -dsimp [go_sem, hc, hcl]
  refine (liner_num B b l name n hn _ hT h hlen hB).mono ?_; rintro e w2 ⟨rfl, h2, k2⟩; refine ret_intro ?_
  simp -dsimp [go_sem]
  exact ⟨h2, k2⟩

def numL (name : List UInt8) (n : Int) : List UInt8 := if n = 0 then [] else partL name (dec n)
def orL (s : List UInt8) : List UInt8 := if s = [] then [63] else s
theorem numL_len (name : List UInt8) (n : Int) (hn : I64 n) : (numL name n).length ≤ name.length + 25 := by
  unfold numL partL
  have := dec_len n hn
  split
  · simp
  · split
    · simp
    · simp; omega
theorem partL_len (name s : List UInt8) : (partL name s).length ≤ name.length + s.length + 2 := by
  unfold partL
  split
  · simp
  · simp; omega
end Go.Proofs.YtdfjfagljngciaaDoor
