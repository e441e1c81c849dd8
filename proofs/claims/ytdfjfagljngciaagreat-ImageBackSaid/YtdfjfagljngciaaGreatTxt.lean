/- Package words: a Reader's Text. -/
import Derived.Test.YtdfjfagljngciaaGreatUnp
set_option linter.all false
set_option maxRecDepth 100000
set_option maxHeartbeats 4000000
namespace Go.Proofs.YtdfjfagljngciaaGreat
open Go.RowKit Rx

/-- Bytes as a string. -/
theorem Sl.strOf {P : Program} {X : Nat → Prop} {w : World} {v : Value} {l : List UInt8} (h : Sl rByte X w v l) {t s e : TypeId} (ht : P.underlying t = some (.slice e)) (hs : P.underlying s = some .string) (he : P.underlying e = some (.int .u8)) :
    (convert t s v).run P w = .ok (.string ⟨l.toArray⟩) w := by
  obtain ⟨a, c, rfl, -, -, h⟩ := h
  have hc : (Conv.bytesToString (.slice a l.length c)).run P w = .ok (.string ⟨l.toArray⟩) w := by
    have hfold : ∀ (l : List UInt8) (s : ByteArray), (l.map (fun x => (x.toNat : Int))).foldl (fun r n => r.push (UInt8.ofNat n.toNat)) s = ⟨s.data ++ l.toArray⟩ := by
      intro l
      induction l with
      | nil => intro s; simp
      | cons x r ih => intro s; rw [List.map_cons, List.foldl_cons, ih]; simp [ByteArray.push]
    cases a with
    | none =>
      have : l = [] := by
        cases l with
        | nil => rfl
        | cons x r => obtain ⟨_, _, e, _⟩ := h (by simp); cases e
      subst this; rfl
    | some ad =>
      have hl : (loadCells ad (l.map (fun x => (x.toNat : Int))).length).run P w = .ok ((l.map (fun x => (x.toNat : Int))).map (Value.int .u8)).toArray w := by
        have := run_loadCells_list (P := P) (w := w) ad ((l.map (fun x => (x.toNat : Int))).map (Value.int .u8)) (fun j u hu => ?_)
        · simpa using this
        · simp only [List.map_map, List.getElem?_map, Option.map_eq_some_iff] at hu
          obtain ⟨x, hx, rfl⟩ := hu
          obtain ⟨b, off, e, hb, -, hc⟩ := h (by have := (List.getElem?_eq_some_iff.1 hx).1; omega)
          cases e
          obtain ⟨cs, rfl, h3⟩ := hc j x hx
          simpa [Addr.add_mid, rByte, repOf] using h3 0 _ rfl
      rw [List.length_map] at hl
      rw [run_bytesToString w _ _ _ _ hl, hfold]
      simp
  simp [convert, Sem.run_bind, run_underlying ht, run_underlying hs, run_underlying he, hc]
/-- A text: of at most so many bytes. -/
def textR (limit : Nat) (l : List UInt64) (bad : Bool) : List UInt8 × List UInt64 × Bool :=
  let a := numR l bad
  let n := a.1.toNat
  if limit < n ∨ a.2.2 = true then ([], a.2.1, true)
  else if a.2.1.length < (needW n).toNat then ([], a.2.1, true)
  else if unpackB (a.2.1.take (needW n).toNat) n = true then (unpackL (a.2.1.take (needW n).toNat) n, a.2.1.drop (needW n).toNat, false) else ([], a.2.1.drop (needW n).toNat, true)
theorem numR_nn (l : List UInt64) (bad : Bool) : 0 ≤ (numR l bad).1 ∧ (numR l bad).1 ≤ 4611686018427387904 := by
  unfold numR
  split
  · simp
  · split
    · simp
    · split
      · simp
      · simp only; omega
theorem reader_Text (b limit : Nat) (hlm : limit ≤ 2 ^ 20) (l : List UInt64) (bad : Bool) (w : World) (h : RdAt w b l bad) :
    Calls Tryz.prog 100 #[.pointer (some ⟨b, 0, none⟩), .int .i64 limit] w fun r w' => r = .returned (.string ⟨(textR limit l bad).1.toArray⟩) ∧ RdAt w' b (textR limit l bad).2.1 (textR limit l bad).2.2 ∧ Step (fun k => k = b) w w' := by
  refine calls_rx h100 Tryz.func100 rfl Tryz.mixed (by kernel_rfl) Tryz.results100 ?_
  simp -dsimp [go_sem]
  refine (reader_Num b l bad w h).mono ?_
  rintro _ w1 ⟨rfl, h1, s1⟩
  refine ret_intro ?_
  have hnn := numR_nn l bad
  have hT : textR limit l bad = (if limit < (numR l bad).1.toNat ∨ (numR l bad).2.2 = true then ([], (numR l bad).2.1, true)
    else if (numR l bad).2.1.length < (needW (numR l bad).1.toNat).toNat then ([], (numR l bad).2.1, true)
    else if unpackB ((numR l bad).2.1.take (needW (numR l bad).1.toNat).toNat) (numR l bad).1.toNat = true then (unpackL ((numR l bad).2.1.take (needW (numR l bad).1.toNat).toNat) (numR l bad).1.toNat, (numR l bad).2.1.drop (needW (numR l bad).1.toNat).toNat, false) else ([], (numR l bad).2.1.drop (needW (numR l bad).1.toNat).toNat, true)) := rfl
  generalize textR limit l bad = T at hT ⊢
  generalize numR l bad = a at h1 hnn hT ⊢
  obtain ⟨n, l1, b1⟩ := a
  simp only at h1 hnn hT ⊢
  obtain ⟨m, rfl⟩ := Int.eq_ofNat_of_zero_le hnn.1
  rw [show ((m : Nat) : Int).toNat = m from rfl] at hT
  have hnb := needW_le m
  obtain ⟨K, hK⟩ := Int.eq_ofNat_of_zero_le hnb.1
  rw [hK, show ((K : Nat) : Int).toNat = K from rfl] at hT
  by_cases g1 : limit < m
  · have g1' : (limit : Int) < m := by omega
    rw [if_pos (.inl g1)] at hT
    subst hT
    simp -dsimp [go_sem, g1, g1']
    refine (reader_spoil b l1 b1 w1 h1).mono ?_; rintro _ w2 ⟨⟨u, rfl⟩, h2, s2⟩; refine ret_intro ?_
    simp -dsimp [go_sem]
    refine (reader_Bad b l1 true w2 h2).mono ?_; rintro _ w3 ⟨rfl, rfl⟩; refine ret_intro ?_
    simp -dsimp [go_sem]
    exact ⟨h2, s1.both s2⟩
  have g1' : ¬ (limit : Int) < m := by omega
  simp -dsimp [go_sem, g1, g1']
  refine (reader_Bad b l1 b1 w1 h1).mono ?_; rintro _ w2 ⟨rfl, rfl⟩; refine ret_intro ?_
  cases b1
  rotate_left
  · rw [if_pos (.inr rfl)] at hT
    subst hT
    simp -dsimp [go_sem]
    exact ⟨h1, s1⟩
  rw [if_neg (by simp [g1])] at hT
  simp -dsimp [go_sem]
  refine (words_Need m (by omega) w1).mono ?_; rintro _ w2 ⟨rfl, rfl⟩; refine ret_intro ?_
  rw [hK]
  simp -dsimp [go_sem]
  refine (reader_take b K (by omega) l1 false w1 h1).mono ?_
  rintro _ w2 ⟨s2, ⟨h2, rfl, h3⟩ | ⟨p, o, h2, rfl, h3, h4⟩⟩
  · refine ret_intro ?_
    have g2 : l1.length < K := by
      unfold takeR at h2
      rw [ite_eq_left_iff] at h2
      by_cases q : l1.length < K
      · exact q
      · exact absurd (h2 (by simp [q])) (by simp)
    rw [if_pos g2] at hT
    subst hT
    simp -dsimp [go_sem]
    refine (words_Unpack (fun _ => False) _ [] m (by omega) w2 (Sl.nil _ _ _)).mono ?_; rintro _ w3 ⟨o3, rfl, -, k3⟩; refine ret_intro ?_
    simp -dsimp [go_sem]
    refine (reader_Bad b l1 true w3 (h3.keep k3)).mono ?_; rintro _ w4 ⟨rfl, rfl⟩; refine ret_intro ?_
    simp -dsimp [go_sem]
    refine (reader_spoil b l1 true w3 (h3.keep k3)).mono ?_; rintro _ w4 ⟨⟨u, rfl⟩, h4, s4⟩; refine ret_intro ?_
    simp -dsimp [go_sem]
    exact ⟨h4, (s1.both s2).both ((Keep.any k3).both s4)⟩
  · refine ret_intro ?_
    unfold takeR at h2
    split at h2
    · cases h2
    rename_i g2
    simp only [not_or, Nat.not_lt] at g2
    rw [if_neg (by omega)] at hT
    simp only [Option.some.injEq] at h2
    subst h2
    simp only at h3 h4
    generalize l1.take K = L1 at h3 hT
    generalize l1.drop K = L2 at h4 hT
    obtain ⟨oa, oc, rfl, -⟩ := id h3
    simp -dsimp [go_sem]
    refine (words_Unpack _ _ _ m (by omega) w2 h3).mono ?_; rintro _ w3 ⟨o3, rfl, ho3, k3⟩; refine ret_intro ?_
    simp -dsimp [go_sem]
    refine (reader_Bad b _ false w3 (h4.keep k3)).mono ?_; rintro _ w4 ⟨rfl, rfl⟩; refine ret_intro ?_
    cases hu : unpackB L1 m
    · rw [hu, if_neg (by decide)] at hT
      subst hT
      simp -dsimp [go_sem]
      refine (reader_spoil b _ false w3 (h4.keep k3)).mono ?_; rintro _ w4 ⟨⟨u, rfl⟩, h5, s4⟩; refine ret_intro ?_
      simp -dsimp [go_sem]
      exact ⟨h5, (s1.both s2).both ((Keep.any k3).both s4)⟩
    · rw [hu, if_pos rfl] at hT
      subst hT
      have ho4 := ho3 hu
      obtain ⟨pa, pc, rfl, -⟩ := id ho4
      have hcv := ho4.strOf Tryz.underlying23 Tryz.underlying9 Tryz.underlying5
      simp -dsimp [go_sem, hcv]
      exact ⟨h4.keep k3, (s1.both s2).both (Keep.any k3)⟩
end Go.Proofs.YtdfjfagljngciaaGreat
