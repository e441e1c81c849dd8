/- The reference's state: an effect. The reference: an effect happens, or it can't. -/
import Derived.Test.YtdfjfagljngciaaGreatRo
import Derived.Test.YtdfjfagljngciaaGreatRe
set_option linter.all false
set_option maxRecDepth 100000
set_option maxHeartbeats 8000000
namespace Go.Proofs.YtdfjfagljngciaaGreat
open Go.RowKit Rx Go.MapKept

/-- What a change of the reference's state hands back. -/
def DidR (w : World) (X : Nat → Prop) (b : Nat) (v : Value) (s : St) (R : Option (St × List Int)) (r : Ending) (w' : World) : Prop :=
  ∃ g, r = .returned (.tuple #[g, .bool R.isSome]) ∧ Ow rInt 3 (fun _ => True) w' g (R.elim [] (·.2)) ∧ (∀ c, ownB g = some c → w.heap.size ≤ c) ∧
    ∃ v', RAt w' (fun k => X k ∨ ownB v' = some k) b v' (R.elim s (·.1)) ∧ Step (fun k => k = b ∨ ownB v = some k) w w' ∧ ∀ j, ownB v' = some j → ownB v = some j ∨ w.heap.size ≤ j
theorem didR_no {w w' : World} {X : Nat → Prop} {b : Nat} {v : Value} {s : St} (h : RAt w X b v s) (k : Keep w w') : DidR w X b v s none (.returned (.tuple #[.slice none 0 0, .bool false])) w' := by
  have h' := h.keep k
  exact ⟨_, rfl, Ow.nil _ _ _ _, by simp [ownB], v, ⟨h'.hb, h'.ho.mono (fun j _ q => q.elim id (h.xv j)), fun j q => .inr q, .inl h.xb, fun j q => q.elim (h'.xl j) (fun q => h'.xl j (h.xv j q))⟩, k.any, fun g q => .inl q⟩
theorem didR_of {w W w' : World} {X : Nat → Prop} {b : Nat} {v : Value} {s : St} {o : Option St} (k : Keep w W)
    (h : ∃ v', RAt w' (fun k => X k ∨ ownB v' = some k) b v' (o.getD s) ∧ Step (fun k => k = b ∨ ownB v = some k) W w' ∧ ∀ g, ownB v' = some g → ownB v = some g ∨ W.heap.size ≤ g) :
    DidR w X b v s (o.map (fun t => (t, []))) (.returned (.tuple #[.slice none 0 0, .bool o.isSome])) w' := by
  obtain ⟨v', h1, h2, h3⟩ := h
  refine ⟨.slice none 0 0, by simp, ?_, by simp [ownB], v', ?_, Step.trans (O := fun j => j = b ∨ ownB v = some j) (Keep.any k) h2 (fun j _ q => q), fun j q => (h3 j q).imp id (fun q => Nat.le_trans k.size q)⟩
  · cases o <;> exact Ow.nil _ _ _ _
  · cases o <;> exact h1
theorem remove_is {m : Bool} {t s : St} : (if m = true then some t else none : Option St).isSome = m ∧ (if m = true then some t else none : Option St).getD s = if m = true then t else s := by cases m <;> simp
theorem put_fresh {k : Nat} {s : St} (h : Good k s) {dir : Int} {nm : ByteArray} {ino : Int} (hd : isDir s dir = true) : (putE (dirN s dir).names nm ino).2 = true ↔ (findN (dirN s dir).names nm).1 = 0 := by
  have h1 := h.found (nm := nm) hd
  have h2 : (putE (dirN s dir).names nm ino).2 = !(findN (dirN s dir).names nm).2 := by
    unfold putE
    rcases findN_place (dirN s dir).names nm with ⟨q1, q2⟩ | ⟨i, x, q1, q2, q3, q4⟩
    · rcases hasE_place (dirN s dir).names nm with ⟨p1, p2⟩ | ⟨p1, p2⟩
      · omega
      · rw [if_neg (by rw [p1]; simp), q2]; rfl
    · rcases hasE_place (dirN s dir).names nm with ⟨p1, p2⟩ | ⟨p1, p2⟩
      · rw [if_pos p1, q4]; rfl
      · omega
  rw [h2]
  cases hf : (findN (dirN s dir).names nm).2
  · simp [findN_no hf]
  · have := h1.1 hf
    simp [this]
theorem make_ref {k : Nat} {s : St} (h : Good k s) (e : Effect) : makeS s e = if kindS s e.dir = 2 ∧ namedS s e.dir e.name = 0 ∧ e.ino = s.last + 1 then
    some ⟨setL (setL s.L { dirN s e.dir with names := (putE (dirN s e.dir).names e.name e.ino).1 }) (newN e.ino e.page e.dir), e.ino⟩ else none := by
  unfold makeS
  simp only
  have hc : (isDir s e.dir = true ∧ (putE (dirN s e.dir).names e.name e.ino).2 = true ∧ e.ino = s.last + 1) ↔ (kindS s e.dir = 2 ∧ namedS s e.dir e.name = 0 ∧ e.ino = s.last + 1) := by
    constructor
    · rintro ⟨h1, h2, h3⟩
      exact ⟨by have := kindS_dir s e.dir; rw [h1] at this; simpa using this, by unfold namedS; rw [if_pos h1]; exact (put_fresh h h1).1 h2, h3⟩
    · rintro ⟨h1, h2, h3⟩
      have hd : isDir s e.dir = true := by rw [← kindS_dir]; exact decide_eq_true h1
      unfold namedS at h2
      rw [if_pos hd] at h2
      exact ⟨hd, (put_fresh h hd).2 h2, h3⟩
  by_cases g : kindS s e.dir = 2 ∧ namedS s e.dir e.name = 0 ∧ e.ino = s.last + 1
  · rw [if_pos g, if_pos (hc.2 g)]
  · rw [if_neg g, if_neg (fun q => g (hc.1 q))]
theorem link_ref {k : Nat} {s : St} (h : Good k s) (e : Effect) : linkS s e = if kindS s e.dir = 2 ∧ namedS s e.dir e.name = 0 ∧ kindS s e.ino = 1 ∧ 1 ≤ (dirN s e.ino).links ∧ (dirN s e.ino).links ≤ 15 then
    some ⟨setL (setL s.L { dirN s e.dir with names := (putE (dirN s e.dir).names e.name e.ino).1 }) { dirN s e.ino with links := (dirN s e.ino).links + 1 }, s.last⟩ else none := by
  unfold linkS
  simp only
  have hc : (isDir s e.dir = true ∧ isFile s e.ino = true ∧ (putE (dirN s e.dir).names e.name e.ino).2 = true ∧ 1 ≤ (dirN s e.ino).links ∧ (dirN s e.ino).links < 16) ↔ (kindS s e.dir = 2 ∧ namedS s e.dir e.name = 0 ∧ kindS s e.ino = 1 ∧ 1 ≤ (dirN s e.ino).links ∧ (dirN s e.ino).links ≤ 15) := by
    constructor
    · rintro ⟨h1, h2, h3, h4, h5⟩
      exact ⟨by have := kindS_dir s e.dir; rw [h1] at this; simpa using this, by unfold namedS; rw [if_pos h1]; exact (put_fresh h h1).1 h3, by have := kindS_file s e.ino; rw [h2] at this; simpa using this, h4, by omega⟩
    · rintro ⟨h1, h2, h3, h4, h5⟩
      have hd : isDir s e.dir = true := by rw [← kindS_dir]; exact decide_eq_true h1
      unfold namedS at h2
      rw [if_pos hd] at h2
      exact ⟨hd, by rw [← kindS_file]; exact decide_eq_true h3, (put_fresh h hd).2 h2, h4, by omega⟩
  by_cases g : kindS s e.dir = 2 ∧ namedS s e.dir e.name = 0 ∧ kindS s e.ino = 1 ∧ 1 ≤ (dirN s e.ino).links ∧ (dirN s e.ino).links ≤ 15
  · rw [if_pos g, if_pos (hc.2 g)]
  · rw [if_neg g, if_neg (fun q => g (hc.1 q))]
theorem ref_does (X : Nat → Prop) (b : Nat) (v : Value) (s : St) (k : Nat) (hg : Good k s) (hk : k < 2 ^ 19) (e : Effect) (hok : e.ok) (he : effB e = true) (ref : Int) (hr : I64 ref) (a : Option Addr) (c : Nat) (w : World) (h : RAt w X b v s) :
    Calls Tryz.prog 55 #[.pointer (some ⟨b, 0, none⟩), .agg (e.enc (.slice a e.data.length c)).toArray, .int .i64 ref] w (DidR w X b v s (doesS s e ref)) := by
  obtain ⟨hp1, hp2, hp3, hp6, hp7, k1, k8, hi1, hi2⟩ := effB_place he
  have hok' := hok
  obtain ⟨o1, o2, o3, o4, o5, o6⟩ := hok
  have hl40 : s.L.length ≤ 2 ^ 40 := Nat.le_trans hg.len (by omega)
  have hgk := hg.fine (by omega : k ≤ 2 ^ 19)
  have hn39 : ∀ n ∈ s.L, n.names.length ≤ 2 ^ 39 := fun n q => Nat.le_trans (hg.ok n q).len (by omega)
  refine calls_rx h55 Tryz.func55 rfl Tryz.mixed (by kernel_rfl) Tryz.results55 ?_
  unfold Effect.enc
  simp -dsimp [go_sem]
  generalize hW : w.alloc _ = W
  obtain ⟨E0, k0, z0⟩ := alloc1 hW
  clear hW
  have h0 := h.keep k0
  have E0c := blk_cell E0; have E0f := blk_free E0; have E0l := blk_lt E0
  try simp -dsimp [go_sem, E0c, E0f, E0l]
  refine (ref_At X b v s e.ino hl40 W h0).mono ?_; rintro _ w1 ⟨rfl, k1'⟩; refine ret_intro ?_
  have h1 := h0.keep k1'
  have k01 := Keep.trans k0 k1'
  have E1 := k1'.blk E0 (fun q => q)
  clear E0c E0f E0l
  have E1c := blk_cell E1; have E1f := blk_free E1; have E1l := blk_lt E1
  unfold doesS
  by_cases q1 : e.kind = 1
  · have d1 : decide (e.kind = 1) = true := decide_eq_true q1
    rw [if_pos q1]
    rw [make_ref hg e]
    simp -dsimp [go_sem, E1c, E1f, E1l, d1]
    refine (ref_kind X b v s e.dir hl40 w1.drew (h1.keep (keep_drew w1))).mono ?_; rintro _ w2 ⟨rfl, k2⟩; refine ret_intro ?_
    have k12 := Keep.trans (keep_drew w1) k2
    have h2 := h1.keep k12
    have k02 := Keep.trans k01 k12
    refine ⟨Keep.agree k12 (Agree.refl _), ?_⟩
    by_cases p1 : kindS s e.dir = 2
    rotate_left
    · rw [if_neg (fun q => p1 q.1)]
      simp -dsimp [go_sem, E1c, E1f, E1l, p1]
      exact ⟨Keep.agree k12 (Agree.refl _), didR_no h k02⟩
    simp -dsimp [go_sem, E1c, E1f, E1l, p1]
    refine (ref_named X b v s e.dir e.name hl40 w2 h2).mono ?_; rintro _ w3 ⟨rfl, k3⟩; refine ret_intro ?_
    have k13 := Keep.trans k12 k3
    have h3 := h2.keep k3
    have k03 := Keep.trans k02 k3
    refine ⟨Keep.agree k13 (Agree.refl _), ?_⟩
    by_cases p2 : namedS s e.dir e.name = 0
    rotate_left
    · rw [if_neg (fun q => p2 q.2.1)]
      simp -dsimp [go_sem, E1c, E1f, E1l, p1, p2]
      exact didR_no h k03
    have H1 := h1.hb
    have l0 := hg.l0
    have l1 := hg.l1
    have el : IntKind.i64.wrap (s.last + 1) = s.last + 1 := IntWalk.i64_in _ (by omega)
    have H1c := blk_cell H1; have H1f := blk_free H1; have H1l := blk_lt H1
    by_cases p3 : e.ino = s.last + 1
    rotate_left
    · rw [if_neg (fun q => p3 q.2.2)]
      simp -dsimp [go_sem, E1c, E1f, E1l, H1c, H1f, H1l, p1, p2, p3, el]
      exact didR_no h k03
    rw [if_pos ⟨p1, p2, p3⟩]
    have dp3 : decide (e.ino = s.last + 1) = true := decide_eq_true p3
    have E3 := k13.blk E1 (fun q => q)
    have E3c := blk_cell E3; have E3f := blk_free E3; have E3l := blk_lt E3
    simp -dsimp [go_sem, E1c, E1f, E1l, H1c, H1f, H1l, E3c, E3f, E3l, p1, p2, dp3, el]
    clear E1c E1f E1l H1c H1f H1l
    generalize hW : w3.alloc _ = w4
    obtain ⟨N4, k4, z4⟩ := alloc1 hW
    clear hW
    have E4 := k4.blk E3 (fun q => q)
    clear E3c E3f E3l
    have E4c := blk_cell E4; have E4f := blk_free E4; have E4l := blk_lt E4; have N4c := blk_cell N4; have N4f := blk_free N4; have N4l := blk_lt N4
    try simp -dsimp [go_sem, E4c, E4f, E4l, N4c, N4f, N4l]
    refine join_intro (σ := Unit) (fun _ => []) (fun _ w' => Keep w3 w' ∧ w'.heap[w3.heap.size]? = some (.cells ((newN e.ino e.page e.dir).enc (.slice none 0 0) (.slice none 0 0)).toArray 42 (0, 0))) (by simp -dsimp [go_sem]; rfl) ?_ ?_
    · by_cases gp : e.page = 2
      · have dg : decide (e.page = 2) = true := decide_eq_true gp
        simp -dsimp [go_sem, E4c, E4f, E4l, N4c, N4f, N4l, dg]
        refine meet_intro () (by simp -dsimp [go_sem]) (by simp -dsimp [go_sem]) ⟨Step.keep (O' := fun j => j = w3.heap.size) k4 ((Step.refl (fun j => j = w3.heap.size) w4).set (.inl rfl) _) (fun j q => by omega), blk_eq (blk_set N4 4 _) (by unfold newN Node.enc; simp [gp])⟩
      · simp -dsimp [go_sem, E4c, E4f, E4l, N4c, N4f, N4l, gp]
        refine meet_intro () (by simp -dsimp [go_sem]) (by simp -dsimp [go_sem]) ⟨k4, ?_⟩
        rw [show ((newN e.ino e.page e.dir).enc (.slice none 0 0) (.slice none 0 0)).toArray = #[.int .i64 e.ino, .int .i64 e.page, .int .i64 1, .int .i64 0, .int .i64 0, .slice none 0 0, .slice none 0 0] from by unfold newN Node.enc; simp [gp]]
        exact N4
    rintro _ w5 ⟨k5, N5⟩
    have E5 := k5.blk E3 (fun q => q)
    have h5 := h3.keep k5
    have k05 := Keep.trans k03 k5
    have hdir : isDir s e.dir = true := by rw [← kindS_dir]; exact decide_eq_true p1
    clear E4c E4f E4l N4c N4f N4l
    have E5c := blk_cell E5; have E5f := blk_free E5; have E5l := blk_lt E5; have N5c := blk_cell N5; have N5f := blk_free N5; have N5l := blk_lt N5
    simp -dsimp [go_sem, E5c, E5f, E5l]
    refine (ref_put X b v s e.dir e.name e.ino o2 hl40 hg.srt hn39 hdir w5 h5).mono ?_; rintro _ w6 ⟨⟨u6, rfl⟩, h6, s6⟩; refine ret_intro ?_
    have hdn := hg.node (isDir_some hdir).1
    have hg6 : Good (k + 1) ⟨setL s.L { dirN s e.dir with names := (putE (dirN s e.dir).names e.name e.ino).1 }, s.last⟩ :=
      (hg.mono (Nat.le_add_right k 1)).set (n := { dirN s e.dir with names := (putE (dirN s e.dir).names e.name e.ino).1 }) (hdn.1.put (isDir_some hdir).2 (hp1 (.inl q1)).1 hi1) (by show (getL s.L (dirN s e.dir).ino).isSome = true; rw [hdn.2.1]; exact (isDir_some hdir).1)
    generalize setL s.L { dirN s e.dir with names := (putE (dirN s e.dir).names e.name e.ino).1 } = L1 at h6 hg6 ⊢
    have hno : getL L1 (newN e.ino e.page e.dir).ino = none := getL_no fun x hx q => by have := hg6.pos x hx; have q' : x.ino = e.ino := q; simp only at this; omega
    have hvl : ∀ g, ownB v = some g → g < w.heap.size := fun g q => h.xl g (h.xv g q)
    have hbl : b < w.heap.size := h.xl b h.xb
    have hwl : w.heap.size < w3.heap.size := by have := k03.size; have := k1'.size; have := k13.size; omega
    have N6 := s6.blk N5 (fun q => by have := hvl _ q; omega)
    have E6 := s6.blk E5 (fun q => by have := hvl _ q; omega)
    have H6 := h6.hb
    have hvb := fun g (q : ownB v = some g) => h6.ne q
    obtain ⟨va, vc, rfl, -⟩ := h6.ho.slice
    generalize hvv : (Value.slice va L1.length vc) = v at *
    obtain ⟨hh, hh1, hh2, hh3, hh4⟩ : ∃ hh : Nat, (∀ g, ownB v = some g → g = hh) ∧ hh ≠ b ∧ hh ≠ w3.heap.size ∧ hh ≠ w.heap.size := by
      have l6 := h6.xl b h6.xb
      have l7 := blk_lt N6
      have l8 := blk_lt E6
      cases ho : ownB v with
      | none => exact ⟨w6.heap.size, by simp, by omega, by omega, by omega⟩
      | some g => have := hvl g ho; have := hvb g ho; exact ⟨g, by simp, by omega, by omega, by omega⟩
    clear E5c E5f E5l N5c N5f N5l
    try simp -dsimp [go_sem]
    have hA : Agree (holed w6 hh) w6 := holed_agree (fun _ _ _ => rfl)
    refine blankF_intro (holed w6 hh) hA ?_
    have N7 := (holed_blk (w := w6) (b := hh) (by omega)).trans N6
    have H7 := (holed_blk (w := w6) (b := hh) (by omega)).trans H6
    unfold newN Node.enc at N7
    have N7c := blk_cell N7; have N7f := blk_free N7; have N7l := blk_lt N7; have H7c := blk_cell H7; have H7f := blk_free H7; have H7l := blk_lt H7
    simp -dsimp [go_sem, N7c, N7f, N7l, H7c, H7f, H7l]
    generalize hW : w6.alloc _ = w7
    obtain ⟨N8, k7, z7⟩ := alloc1 hW
    clear hW N7c N7f N7l H7c H7f H7l
    refine ⟨holed_agree (fun j hj hne => k7.block j hj (fun q => q)), ?_⟩
    have hR8 : rNode.R X w7.drew (newN e.ino e.page e.dir) ((newN e.ino e.page e.dir).enc (.slice none 0 0) (.slice none 0 0)) :=
      ⟨_, _, rfl, (Ow.nil rInt 0 _ w7.drew).sl (by simp [ownB]), (Ow.nil rEntry 0 _ w7.drew).sl (by simp [ownB]), o2, o5, by unfold newN I64; simp, by unfold newN I64; simp, by unfold newN; simp only; split; exact o3; (unfold I64; simp)⟩
    have hl1 : L1.length ≤ 2 ^ 40 := Nat.le_trans hg6.len (by omega)
    have h7 := h6.keep (Keep.trans k7 (keep_drew w7))
    refine app_node (X := X) (cs := (newN e.ino e.page e.dir).enc (.slice none 0 0) (.slice none 0 0)) (W := w7.drew) N8 hR8 (fun q => by have := h6.xl _ q; omega) h7.ho h7.xv hl1 ?_
    intro v' w8 o8 s8 b8
    have H8 := s8.blk h7.hb (fun q => hvb _ q rfl)
    have E8 := s8.blk (k7.blk E6 (fun q => q)) (fun q => by have := hvl _ q; omega)
    have hlen : (L1 ++ [newN e.ino e.page e.dir]) = setL L1 (newN e.ino e.page e.dir) := (setL_new hno).symm
    rw [hlen] at o8
    obtain ⟨va8, vc8, rfl, -⟩ := o8.slice
    have H8c := blk_cell H8; have H8f := blk_free H8; have H8l := blk_lt H8; have E8c := blk_cell E8; have E8f := blk_free E8; have E8l := blk_lt E8
    simp -dsimp [go_sem, H8c, H8f, H8l, E8c, E8f, E8l]
    generalize hv8 : (Value.slice va8 (setL L1 (newN e.ino e.page e.dir)).length vc8) = v8 at *
    generalize hq9 : (World.setCell (World.setCell w8 _ _) _ _) = w9
    have s9 : Step (fun j => j = b) w8 w9 := by rw [← hq9]; exact ((Step.refl (fun j => j = b) w8).set (.inl rfl) _).set (.inl rfl) _
    have H9 : w9.heap[b]? = some (.cells #[v8, .int .i64 e.ino] 86 (0, 0)) := by rw [← hq9]; exact blk_eq (blk_set (blk_set H8 0 _) 1 _) (by first | rfl | simp)
    clear hq9
    have hne8 : ∀ g, ownB v8 = some g → g ≠ b := fun g q => o8.ne_box H8 (by decide) q
    have l5 := k05.size
    have l6 := s6.size
    have l7 := k7.size
    have l9 := s9.size
    have hxl6 := h6.xl
    refine ⟨_, rfl, Ow.nil _ _ _ _, by simp [ownB], v8, ⟨H9, o8.step s9 (fun j q => .inl (by rw [q]; exact h6.xb)) (fun g q => hne8 g q), fun j q => .inr q, .inl h6.xb, fun j q => ?_⟩, ?_, fun j q => ?_⟩
    · rcases q with q | q
      · have := hxl6 j q; have := s8.size; have : w7.heap.size = w7.drew.heap.size := rfl; omega
      · have := (b8 j q).2; omega
    · exact ((((Step.trans (O := fun j => j = b ∨ ownB v = some j) (Keep.any k05) s6 (fun j _ q => .inr q)).then (Keep.trans k7 (keep_drew w7))).trans s8 (fun j _ q => .inr q)).trans s9 (fun j _ q => .inl q))
    · have : w7.heap.size = w7.drew.heap.size := rfl
      exact (b8 j q).1.imp id (fun q => by omega)
  rw [if_neg q1]
  by_cases q2 : e.kind = 2
  · have d2 : decide (e.kind = 2) = true := decide_eq_true q2
    rw [if_pos q2]
    rw [link_ref hg e]
    simp -dsimp [go_sem, E1c, E1f, E1l, q1, d2]
    refine (ref_kind X b v s e.dir hl40 w1 h1).mono ?_; rintro _ w2 ⟨rfl, k2⟩; refine ret_intro ?_
    have h2 := h1.keep k2
    have k02 := Keep.trans k01 k2
    have E2 := k2.blk E1 (fun q => q)
    clear E1c E1f E1l
    have E2c := blk_cell E2; have E2f := blk_free E2; have E2l := blk_lt E2
    by_cases p1 : kindS s e.dir = 2
    rotate_left
    · rw [if_neg (fun q => p1 q.1)]
      simp -dsimp [go_sem, E2c, E2f, E2l, p1]
      exact didR_no h k02
    simp -dsimp [go_sem, E2c, E2f, E2l, p1]
    refine (ref_named X b v s e.dir e.name hl40 w2 h2).mono ?_; rintro _ w3 ⟨rfl, k3⟩; refine ret_intro ?_
    have h3 := h2.keep k3
    have k03 := Keep.trans k02 k3
    have E3 := k3.blk E2 (fun q => q)
    clear E2c E2f E2l
    have E3c := blk_cell E3; have E3f := blk_free E3; have E3l := blk_lt E3
    by_cases p2 : namedS s e.dir e.name = 0
    rotate_left
    · rw [if_neg (fun q => p2 q.2.1)]
      simp -dsimp [go_sem, E3c, E3f, E3l, p1, p2]
      exact didR_no h k03
    simp -dsimp [go_sem, E3c, E3f, E3l, p1, p2]
    refine (ref_kind X b v s e.ino hl40 w3 h3).mono ?_; rintro _ w4 ⟨rfl, k4⟩; refine ret_intro ?_
    have h4 := h3.keep k4
    have k04 := Keep.trans k03 k4
    have E4 := k4.blk E3 (fun q => q)
    clear E3c E3f E3l
    have E4c := blk_cell E4; have E4f := blk_free E4; have E4l := blk_lt E4
    by_cases p3 : kindS s e.ino = 1
    rotate_left
    · rw [if_neg (fun q => p3 q.2.2.1)]
      simp -dsimp [go_sem, E4c, E4f, E4l, p1, p2, p3]
      exact didR_no h k04
    have hsome := hg.kindS.2 (by rw [p3]; decide : kindS s e.ino ≠ 0)
    rcases at_cases s.L e.ino with ⟨a1, a2⟩ | ⟨i, x, a1, a2, a3⟩
    · rw [a2] at hsome; cases hsome
    rw [a1, dirN_some a3]
    have hi := (List.getElem?_eq_some_iff.1 a2).1
    have hi2 : (i : Int) < s.L.length := by omega
    obtain ⟨g, off, c', p, m, rfl, hgs, hgo', hokx, hp, hm, c0, c1, c2, c3, c4, c5, c6, hf, -⟩ := h4.ho.node h.xv a2
    have H4 := h4.hb
    have H4c := blk_cell H4; have H4f := blk_free H4; have H4l := blk_lt H4
    by_cases p4 : x.links < 1
    · rw [if_neg (fun q => by have := q.2.2.2.1; omega)]
      simp -dsimp [go_sem, E4c, E4f, E4l, H4c, H4f, H4l, p1, p2, p3, p4, hgs, hi, hi2, c2]
      exact didR_no h k04
    by_cases p5 : 15 < x.links
    · rw [if_neg (fun q => by have := q.2.2.2.2; omega)]
      simp -dsimp [go_sem, E4c, E4f, E4l, H4c, H4f, H4l, p1, p2, p3, p4, p5, hgs, hi, hi2, c2]
      exact didR_no h k04
    rw [if_pos ⟨p1, p2, p3, by omega, by omega⟩]
    simp -dsimp [go_sem, E4c, E4f, E4l, H4c, H4f, H4l, p1, p2, p3, p4, p5, hgs, hi, hi2, c2]
    have hdir : isDir s e.dir = true := by rw [← kindS_dir]; exact decide_eq_true p1
    have hvl : ∀ j, ownB (.slice (some ⟨g, off, none⟩) s.L.length c') = some j → j < w.heap.size := fun j q => h.xl j (h.xv j q)
    refine (ref_put X b _ s e.dir e.name e.ino o2 hl40 hg.srt hn39 hdir w4 h4).mono ?_; rintro _ w5 ⟨⟨u5, rfl⟩, h5, s5⟩; refine ret_intro ?_
    have hdn := hg.node (isDir_some hdir).1
    have hg5 : Good (k + 1) ⟨setL s.L { dirN s e.dir with names := (putE (dirN s e.dir).names e.name e.ino).1 }, s.last⟩ :=
      (hg.mono (Nat.le_add_right k 1)).set (n := { dirN s e.dir with names := (putE (dirN s e.dir).names e.name e.ino).1 }) (hdn.1.put (isDir_some hdir).2 (hp1 (.inr (.inl q2))).1 hi1) (by show (getL s.L (dirN s e.dir).ino).isSome = true; rw [hdn.2.1]; exact (isDir_some hdir).1)
    have hxk : x.kind = 1 := by have := p3; unfold kindS at this; rwa [dirN_some a3] at this
    have hgl : getL (setL s.L { dirN s e.dir with names := (putE (dirN s e.dir).names e.name e.ino).1 }) e.ino = some x := by
      rw [getL_set hg.inos, if_neg, a3]
      intro q
      have q' : (dirN s e.dir).ino = e.ino := q
      rw [hdn.2.1] at q'
      have := (isDir_some hdir).2
      rw [q', dirN_some a3] at this
      omega
    generalize setL s.L { dirN s e.dir with names := (putE (dirN s e.dir).names e.name e.ino).1 } = L1 at h5 hg5 hgl ⊢
    have hl1 : L1.length ≤ 2 ^ 40 := Nat.le_trans hg5.len (by omega)
    have E5 := s5.blk E4 (fun q => by have := hvl _ q; omega)
    have H5 := h5.hb
    clear E4c E4f E4l H4c H4f H4l
    have E5c := blk_cell E5; have E5f := blk_free E5; have E5l := blk_lt E5; have H5c := blk_cell H5; have H5f := blk_free H5; have H5l := blk_lt H5
    simp -dsimp [go_sem, E5c, E5f, E5l, H5c, H5f, H5l]
    refine (ref_At X b _ ⟨L1, s.last⟩ e.ino hl1 w5.drew (h5.keep (keep_drew w5))).mono ?_; rintro _ w6 ⟨rfl, k6⟩; refine ret_intro ?_
    have k56 := Keep.trans (keep_drew w5) k6
    refine ⟨Keep.agree k56 (Agree.refl _), ?_⟩
    have h6 := h5.keep k56
    rcases at_cases L1 e.ino with ⟨t1, t2⟩ | ⟨i6, x6, t1, t2, t3⟩
    · rw [hgl] at t2; cases t2
    rw [hgl] at t3
    obtain rfl : x = x6 := by simpa using t3
    simp only
    rw [t1]
    have hi6 := (List.getElem?_eq_some_iff.1 t2).1
    have hi62 : (i6 : Int) < L1.length := by omega
    obtain ⟨g6, off6, c6', p6, m6, e6, hgs6, hgo6, hok6, hp6', hm6, f0, f1, f2, f3, f4, f5, f6, hf6, hset⟩ := h6.ho.node h6.xv t2
    simp only [Value.slice.injEq, Option.some.injEq, Addr.mk.injEq, and_true, true_and] at e6
    obtain ⟨⟨rfl, rfl⟩, e61, rfl⟩ := e6
    have ew : IntKind.i64.wrap (x.links + 1) = x.links + 1 := IntWalk.i64_in _ (by omega)
    have H6 := h6.hb
    clear E5c E5f E5l H5c H5f H5l
    have H6c := blk_cell H6; have H6f := blk_free H6; have H6l := blk_lt H6
    simp -dsimp [go_sem, H6c, H6f, H6l, hgs6, hi6, hi62, hf6, f2, ew, e61, hi, hi2]
    rw [← e61]
    have hy : rNode.R X w6 { x with links := x.links + 1 } ((x.enc p6 m6).set 2 (.int .i64 (x.links + 1))) := ⟨p6, m6, rfl, hp6', hm6, hok6.1, hok6.2.1, ⟨by show _ ≤ x.links + 1; omega, by show x.links + 1 ≤ _; omega⟩, hok6.2.2.2.1, hok6.2.2.2.2⟩
    have hw := hset 2 _ _ (by decide) hy
    rw [set_setL hg5.srt t2 (y := { x with links := x.links + 1 }) rfl] at hw
    have hgb := h6.ne hgo6
    have hxl := h6.xl
    have hxv := h6.xv
    refine ⟨Keep.agree k56 (Agree.refl _), _, rfl, Ow.nil _ _ _ _, by simp [ownB], _, ⟨blk_far H6 (fun q => hgb q.symm) _, hw.mono (fun j _ q => q.elim id (hxv j)), fun j q => .inr q, .inl h6.xb, fun j q => ?_⟩, ?_, fun j q => .inl q⟩
    · have : j < w6.heap.size := q.elim (hxl j) (fun q => hxl j (hxv j q))
      simp [World.setCell]; omega
    · exact Step.set ((Step.trans (O := fun j => j = b ∨ ownB _ = some j) (Keep.any k04) s5 (fun j _ q => .inr q)).then k56) (.inl (.inr hgo6)) _
  rw [if_neg q2]
  by_cases q3 : e.kind = 3
  · have d3 : decide (e.kind = 3) = true := decide_eq_true q3
    rw [if_pos (.inl q3)]
    simp -dsimp [go_sem, E1c, E1f, E1l, q1, q2, d3]
    refine (ref_off X b v s k hg (by omega) e.dir e.name e.ino 1 (.inl rfl) w1 h1).mono ?_; rintro _ w2 ⟨rfl, v2, h2, s2, b2⟩; refine ret_intro ?_
    simp -dsimp [go_sem]
    have hrm : removeS s e = if mayS s e.dir e.name e.ino 1 = true then some (offS s e.dir e.name e.ino) else none := by
      unfold removeS
      rw [show (if e.kind = 4 then (2 : Int) else 1) = 1 from if_neg (by omega)]
    have hri := remove_is (m := mayS s e.dir e.name e.ino 1) (t := offS s e.dir e.name e.ino) (s := s)
    rw [← hrm] at hri
    rw [← hri.2] at h2
    rw [← hri.1]
    exact didR_of k01 ⟨v2, h2, s2, b2⟩
  by_cases q4 : e.kind = 4
  · have d4 : decide (e.kind = 4) = true := decide_eq_true q4
    rw [if_pos (.inr q4)]
    simp -dsimp [go_sem, E1c, E1f, E1l, q1, q2, q3, d4]
    refine (ref_off X b v s k hg (by omega) e.dir e.name e.ino 2 (.inr rfl) w1 h1).mono ?_; rintro _ w2 ⟨rfl, v2, h2, s2, b2⟩; refine ret_intro ?_
    simp -dsimp [go_sem]
    have hrm : removeS s e = if mayS s e.dir e.name e.ino 2 = true then some (offS s e.dir e.name e.ino) else none := by
      unfold removeS
      rw [show (if e.kind = 4 then (2 : Int) else 1) = 2 from if_pos q4]
    have hri := remove_is (m := mayS s e.dir e.name e.ino 2) (t := offS s e.dir e.name e.ino) (s := s)
    rw [← hrm] at hri
    rw [← hri.2] at h2
    rw [← hri.1]
    exact didR_of k01 ⟨v2, h2, s2, b2⟩
  rw [if_neg (not_or.2 ⟨q3, q4⟩)]
  by_cases q5 : e.kind = 5
  · have d5 : decide (e.kind = 5) = true := decide_eq_true q5
    rw [if_pos q5]
    simp -dsimp [go_sem, E1c, E1f, E1l, q1, q2, q3, q4, d5]
    refine (ref_rename X b v s k hg hk e hok' (hp2 q5) a c w1 h1).mono ?_
    rintro _ w2 ⟨rfl, hh⟩
    refine ret_intro ?_
    simp -dsimp [go_sem]
    exact didR_of k01 hh
  rw [if_neg q5]
  simp -dsimp [go_sem, E1c, E1f, E1l, q1, q2, q3, q4, q5]
  refine (ref_kind X b v s e.ino hl40 w1 h1).mono ?_; rintro _ w2 ⟨rfl, k2⟩; refine ret_intro ?_
  have h2 := h1.keep k2
  have k02 := Keep.trans k01 k2
  have E2 := k2.blk E1 (fun q => q)
  clear E1c E1f E1l
  have E2c := blk_cell E2; have E2f := blk_free E2; have E2l := blk_lt E2
  have hfile := kindS_file s e.ino
  by_cases p1 : kindS s e.ino = 1
  rotate_left
  · have hf : ¬ isFile s e.ino = true := by rw [← hfile]; simpa using p1
    have hnone : (if e.kind = 6 then truncS s e else if e.kind = 7 then writeS s e ref else dropS s e) = none := by
      split
      · unfold truncS; rw [if_neg hf]
      · split
        · unfold writeS; rw [if_neg (fun q => hf q.1)]
        · unfold dropS; rw [if_neg (fun q => hf q.1)]
    rw [hnone]
    simp -dsimp [go_sem, E2c, E2f, E2l, p1]
    exact didR_no h k02
  have hisf : isFile s e.ino = true := by rw [← hfile]; exact decide_eq_true p1
  rcases at_cases s.L e.ino with ⟨a1, a2⟩ | ⟨i, x, a1, a2, a3⟩
  · have := (isFile_some hisf).1; rw [a2] at this; cases this
  rw [a1]
  have hi := (List.getElem?_eq_some_iff.1 a2).1
  have hi2 : (i : Int) < s.L.length := by omega
  obtain ⟨g, off, c', p, m, rfl, hgs, hgo', hokx, hp, hm, c0, c1, c2, c3, c4, c5, c6, hf, -⟩ := h2.ho.node h.xv a2
  obtain ⟨pa, pc, rfl, -⟩ := id hp
  obtain ⟨ma, mc, rfl, -⟩ := id hm
  have H2 := h2.hb
  have H2c := blk_cell H2; have H2f := blk_free H2; have H2l := blk_lt H2
  simp -dsimp [go_sem, E2c, E2f, E2l, H2c, H2f, H2l, p1, hgs, hi, hi2, c0, c1, c2, c3, c4, c5, c6]
  generalize hW : w2.alloc _ = w3
  obtain ⟨N3, k3, z3⟩ := alloc1 hW
  clear hW
  have h3 := h2.keep k3
  have k03 := Keep.trans k02 k3
  have E3 := k3.blk E2 (fun q => q)
  have H3 := h3.hb
  clear E2c E2f E2l H2c H2f H2l
  have hxm := List.mem_of_getElem? a2
  have hxo := hg.ok x hxm
  have hdx : dirN s e.ino = x := dirN_some a3
  have hrx : rNode.R X w3 x (x.enc (.slice pa x.pages.length pc) (.slice ma x.names.length mc)) := rNode.keep ⟨_, _, rfl, hp, hm, hokx⟩ k3
  have hvl : ∀ j, ownB (.slice (some ⟨g, off, none⟩) s.L.length c') = some j → j < w.heap.size := fun j q => h.xl j (h.xv j q)
  have E3c := blk_cell E3; have E3f := blk_free E3; have E3l := blk_lt E3; have N3c := blk_cell N3; have N3f := blk_free N3; have N3l := blk_lt N3
  by_cases q6 : e.kind = 6
  · have d6 : decide (e.kind = 6) = true := decide_eq_true q6
    rw [if_pos q6]
    obtain ⟨z6a, z6b⟩ := hp6 q6
    unfold truncS
    rw [if_pos hisf, hdx]
    simp -dsimp [go_sem, E3c, E3f, E3l, N3c, N3f, N3l, d6]
    refine (ref_Resize X x _ e.size o6 w3 hrx (Nat.le_trans hxo.pg (by decide)) (Nat.le_trans hxo.len (by omega))).mono ?_; rintro _ w4 ⟨p4, m4, g4, rfl, n4, og4, k4, bg4⟩; refine ret_intro ?_
    have hxi4 : (resizeN x e.size).1.ino = x.ino := resizeN_ino x e.size
    have hok4 : (resizeN x e.size).1.ok := resizeN_ok hokx o6
    generalize resizeN x e.size = D at n4 og4 hxi4 hok4 ⊢
    obtain ⟨dn, gone⟩ := D
    simp only at n4 og4 hxi4 hok4 ⊢
    obtain ⟨pa4, pc4, ma4, mc4, rfl, rfl, -⟩ := n4.slices
    unfold Node.enc
    simp -dsimp [go_sem]
    generalize hW : w4.alloc _ = w5
    obtain ⟨N5, k5, z5⟩ := alloc1 hW
    clear hW N3c N3f N3l E3c E3f E3l
    have k45 := Keep.trans k4 k5
    have h5 := h3.keep k45
    have H5 := h5.hb
    obtain ⟨g5, off5, c5', p5, m5, e5, hgs5, hgo5, hok5, hp5, hm5, f0, f1, f2, f3, f4, f5, f6, hf5, -⟩ := h5.ho.node h5.xv a2
    cases e5
    have H5c := blk_cell H5; have H5f := blk_free H5; have H5l := blk_lt H5; have N5c := blk_cell N5; have N5f := blk_free N5; have N5l := blk_lt N5
    simp -dsimp [go_sem, H5c, H5f, H5l, N5c, N5f, N5l, hgs5, hi, hi2, hf5, f0, f1, f2, f3, f4, f5, f6]
    have hxl5 := h5.xl
    have l45 := k45.size
    have l03 := k03.size
    have hy : rNode.R X w5 dn (dn.enc (.slice pa4 dn.pages.length pc4) (.slice ma4 dn.names.length mc4)) := (n4.keep k5).rep hok4 (fun j _ q => h3.xl j q)
    obtain ⟨hw, sw⟩ := h5.ho.putAll h5.xv hi hy
    rw [set_setL hg.srt a2 (y := dn) hxi4] at hw
    have hgX := h5.xv g hgo5
    have hgb := h5.ne hgo5
    have hgl := hvl g hgo5
    change DidR w X b _ s _ _ (World.setCells w5 g (off + i * 7) (dn.enc (.slice pa4 dn.pages.length pc4) (.slice ma4 dn.names.length mc4))).drew
    change Ow rNode _ X (World.setCells w5 g (off + i * 7) _) _ _ at hw
    change Step _ _ (World.setCells w5 g (off + i * 7) _) at sw
    generalize World.setCells w5 g (off + i * 7) (dn.enc (.slice pa4 dn.pages.length pc4) (.slice ma4 dn.names.length mc4)) = w6 at hw sw ⊢
    have l6 := sw.size
    refine ⟨_, rfl, ((og4.keep k5).flat flat_int sw (fun j hj q => by have := bg4 j hj; omega)).keep (keep_drew w6), fun j q => by have := bg4 j q; omega, _, ⟨sw.blk H5 (fun q => hgb q.symm), (hw.mono (fun j _ q => q.elim id (h5.xv j))).keep (keep_drew w6), fun j q => .inr q, .inl h5.xb, fun j q => ?_⟩, ?_, fun j q => .inl q⟩
    · have : j < w5.heap.size := q.elim (hxl5 j) (fun q => hxl5 j (h5.xv j q))
      show j < w6.heap.size
      omega
    · exact ((Step.trans (O := fun j => j = b ∨ ownB _ = some j) (Keep.any (Keep.trans k03 k45)) sw (fun j _ q => .inr (by rw [q]; exact hgo5)))).then (keep_drew w6)
  rw [if_neg q6]
  simp -dsimp [go_sem, E3c, E3f, E3l, N3c, N3f, N3l, q6]
  by_cases q7 : e.kind = 7
  · have d7 : decide (e.kind = 7) = true := decide_eq_true q7
    rw [if_pos q7]
    obtain ⟨y1, y2, y3, y4⟩ := hp7 q7
    unfold writeS
    rw [hdx]
    by_cases g2 : e.size < x.size
    · rw [if_neg (fun q => q.2 g2)]
      simp -dsimp [go_sem, E3c, E3f, E3l, N3c, N3f, N3l, d7, g2]
      exact didR_no h k03
    rw [if_pos ⟨hisf, g2⟩]
    simp -dsimp [go_sem, E3c, E3f, E3l, N3c, N3f, N3l, d7, g2]
    refine (ref_Resize X x _ e.size o6 w3 hrx (Nat.le_trans hxo.pg (by decide)) (Nat.le_trans hxo.len (by omega))).mono ?_; rintro _ w4 ⟨p4, m4, g4, rfl, n4, og4, k4, bg4⟩; refine ret_intro ?_
    have hxi4 : (resizeN x e.size).1.ino = x.ino := resizeN_ino x e.size
    have hok4 : (resizeN x e.size).1.ok := resizeN_ok hokx o6
    have hlen4 := resizeN_len (n := x) (size := e.size) (by omega) y3
    obtain ⟨pi, hpi⟩ := Int.eq_ofNat_of_zero_le y1
    have hin : pi < (needI e.size).toNat := by unfold needI; split <;> omega
    obtain ⟨old, hpx⟩ : ∃ old, (resizeN x e.size).1.pages[pi]? = some old := ⟨_, List.getElem?_eq_getElem (by omega)⟩
    have hput : putN x e.page.toNat ref e.size = ({ (resizeN x e.size).1 with pages := (resizeN x e.size).1.pages.set pi ref }, old) := by
      unfold putN; simp only [show e.page.toNat = pi from by omega, hpx, Option.getD_some]
    rw [hput]
    clear hput
    generalize resizeN x e.size = D at n4 og4 hxi4 hok4 hlen4 hpx ⊢
    obtain ⟨dn, gone⟩ := D
    simp only at n4 og4 hxi4 hok4 hlen4 hpx ⊢
    obtain ⟨pa4, pc4, ma4, mc4, rfl, rfl, -⟩ := n4.slices
    obtain ⟨ga4, gc4, rfl, -⟩ := og4.slice
    unfold Node.enc
    simp -dsimp [go_sem]
    generalize hW : w4.alloc _ = w5
    obtain ⟨N5, k5, z5⟩ := alloc1 hW
    clear hW N3c N3f N3l E3c E3f E3l
    have k45 := Keep.trans k4 k5
    have h5 := h3.keep k45
    have E5 := k45.blk E3 (fun q => q)
    have n5 := n4.keep k5
    obtain ⟨gb, off6, c6', e6, hgl6, hgo6, hgc6, hgf6, hx64, hset⟩ := n5.po.int_at hpx
    simp only [Value.slice.injEq, true_and] at e6
    obtain ⟨rfl, rfl⟩ := e6
    have hpl : (pi : Int) < dn.pages.length := by omega
    have hpl2 : pi < dn.pages.length := by omega
    rw [hpi] at E5
    have H5 := h5.hb
    have E5c := blk_cell E5; have E5f := blk_free E5; have E5l := blk_lt E5; have N5c := blk_cell N5; have N5f := blk_free N5; have N5l := blk_lt N5
    simp -dsimp [go_sem, E5c, E5f, E5l, N5c, N5f, N5l, hpl, hpl2, hgl6, hgc6, hgf6]
    have o6 := hset ref hr
    have s6 : Step (fun k => k = gb) w5 (w5.setCell ⟨gb, off6 + pi, none⟩ (.int .i64 ref)) := (Step.refl (fun k => k = gb) w5).set (p := ⟨gb, off6 + pi, none⟩) (.inl rfl) _
    generalize qw6 : w5.setCell ⟨gb, off6 + pi, none⟩ (.int .i64 ref) = w6 at o6 s6 ⊢
    clear qw6
    have hgb3 := n4.pb gb hgo6
    have hgb4 := n4.po.lt hgo6
    have k36 : Keep w3 w6 := Step.keep k45 s6 (fun j q => by omega)
    have h6 := h3.keep k36
    have N6 := s6.blk N5 (by omega)
    have n6 : NNew w3.heap.size w6 { dn with pages := dn.pages.set pi ref } (.slice (some ⟨gb, off6, none⟩) dn.pages.length pc4) (.slice ma4 dn.names.length mc4) :=
      ⟨⟨o6, n5.mo.flat flat_entry s6 (fun j hj q => by subst q; exact n5.ne j hgo6 hj), n5.ne⟩, n5.pb, n5.mb⟩
    clear E5c E5f E5l N5c N5f N5l
    have H6 := h6.hb
    obtain ⟨g7, off7, c7', p7, m7, e7, hgs7, hgo7, hok7, hp7', hm7, f0, f1, f2, f3, f4, f5, f6, hf7, -⟩ := h6.ho.node h6.xv a2
    cases e7
    have H6c := blk_cell H6; have H6f := blk_free H6; have H6l := blk_lt H6; have N6c := blk_cell N6; have N6f := blk_free N6; have N6l := blk_lt N6
    simp -dsimp [go_sem, H6c, H6f, H6l, N6c, N6f, N6l, hgs7, hi, hi2, hf7, f0, f1, f2, f3, f4, f5, f6]
    have hxl6 := h6.xl
    have l36 := k36.size
    have l03 := k03.size
    have hok6 : ({ dn with pages := dn.pages.set pi ref } : Node).ok := hok4
    have hy : rNode.R X w6 { dn with pages := dn.pages.set pi ref } (({ dn with pages := dn.pages.set pi ref } : Node).enc (.slice (some ⟨gb, off6, none⟩) dn.pages.length pc4) (.slice ma4 dn.names.length mc4)) := n6.rep hok6 (fun j _ q => h3.xl j q)
    obtain ⟨hw, sw⟩ := h6.ho.putAll h6.xv hi hy
    rw [set_setL hg.srt a2 (y := { dn with pages := dn.pages.set pi ref }) hxi4] at hw
    have hgX := h6.xv g hgo7
    have hgb := h6.ne hgo7
    have hgl := hvl g hgo7
    have kS : Step (fun j => j = b ∨ ownB (.slice (some ⟨g, off, none⟩) s.L.length c') = some j) w (w6.setCells g (off + i * rNode.n) (({ dn with pages := dn.pages.set pi ref } : Node).enc (.slice (some ⟨gb, off6, none⟩) dn.pages.length pc4) (.slice ma4 dn.names.length mc4))) :=
      Step.trans (O := fun j => j = b ∨ ownB _ = some j) (Keep.any (Keep.trans k03 k36)) sw (fun j _ q => .inr (by rw [q]; exact hgo7))
    by_cases g5 : old = 0
    · simp -dsimp [go_sem, g5]
      change DidR w X b _ s _ _ (World.setCells w6 g (off + i * 7) (({ dn with pages := dn.pages.set pi ref } : Node).enc (.slice (some ⟨gb, off6, none⟩) dn.pages.length pc4) (.slice ma4 dn.names.length mc4))).drew
      change Ow rNode _ X (World.setCells w6 g (off + i * 7) _) _ _ at hw
      change Step _ _ (World.setCells w6 g (off + i * 7) _) at sw
      change Step _ _ (World.setCells w6 g (off + i * 7) _) at kS
      generalize World.setCells w6 g (off + i * 7) (({ dn with pages := dn.pages.set pi ref } : Node).enc (.slice (some ⟨gb, off6, none⟩) dn.pages.length pc4) (.slice ma4 dn.names.length mc4)) = w7 at hw sw kS ⊢
      have l6 := sw.size
      refine ⟨_, rfl, Ow.nil _ _ _ _, by simp [ownB], _, ⟨sw.blk H6 (fun q => hgb q.symm), (hw.mono (fun j _ q => q.elim id (h6.xv j))).keep (keep_drew w7), fun j q => .inr q, .inl h6.xb, fun j q => ?_⟩, kS.then (keep_drew w7), fun j q => .inl q⟩
      have : j < w6.heap.size := q.elim (hxl6 j) (fun q => hxl6 j (h6.xv j q))
      show j < w7.heap.size
      omega
    · simp -dsimp [go_sem, g5]
      change DidR w X b _ s _ _ (World.drew ((World.setCells w6 g (off + i * 7) (({ dn with pages := dn.pages.set pi ref } : Node).enc (.slice (some ⟨gb, off6, none⟩) dn.pages.length pc4) (.slice ma4 dn.names.length mc4))).alloc _))
      change Ow rNode _ X (World.setCells w6 g (off + i * 7) _) _ _ at hw
      change Step _ _ (World.setCells w6 g (off + i * 7) _) at sw
      change Step _ _ (World.setCells w6 g (off + i * 7) _) at kS
      have hz6 : w6.heap.size = (World.setCells w6 g (off + i * 7) (({ dn with pages := dn.pages.set pi ref } : Node).enc (.slice (some ⟨gb, off6, none⟩) dn.pages.length pc4) (.slice ma4 dn.names.length mc4))).heap.size := by
        simp [World.setCells, Node.enc, World.setCell]
      rw [hz6]
      generalize World.setCells w6 g (off + i * 7) (({ dn with pages := dn.pages.set pi ref } : Node).enc (.slice (some ⟨gb, off6, none⟩) dn.pages.length pc4) (.slice ma4 dn.names.length mc4)) = w7 at hw sw kS ⊢
      have l6 := sw.size
      have kA : Keep w7 (w7.alloc (.cells #[.int .i64 old] 3)).drew := (keep_alloc w7 _).then (keep_drew _)
      refine ⟨_, rfl, (Ow.one_int w7 old hx64).keep (keep_drew _), fun j q => ?_, _, ⟨kA.blk (sw.blk H6 (fun q => hgb q.symm)) (fun q => q), (hw.mono (fun j _ q => q.elim id (h6.xv j))).keep kA, fun j q => .inr q, .inl h6.xb, fun j q => ?_⟩, kS.then kA, fun j q => .inl q⟩
      · simp [ownB] at q; omega
      · have : j < w6.heap.size := q.elim (hxl6 j) (fun q => hxl6 j (h6.xv j q))
        have := kA.size
        omega
  rw [if_neg q7]
  simp -dsimp [go_sem, E3c, E3f, E3l, N3c, N3f, N3l, q7]
  unfold dropS
  rw [hdx]
  by_cases g2 : 0 < x.links
  · rw [if_neg (fun q => q.2 g2)]
    simp -dsimp [go_sem, g2]
    exact didR_no h k03
  rw [if_pos ⟨hisf, g2⟩]
  simp -dsimp [go_sem, E3c, E3f, E3l, N3c, N3f, N3l, g2]
  have hl20 : s.L.length ≤ 2 ^ 20 := Nat.le_trans hg.len (by omega)
  refine (ref_remove X b _ s e.ino hl20 hg.srt (isFile_some hisf).1 w3 h3).mono ?_
  rintro _ w4 ⟨⟨u4, rfl⟩, v4, h4, s4, b4⟩
  refine ret_intro ?_
  have l03 := k03.size
  have l4 := s4.size
  have hbl := h.xl b h.xb
  have N4 := s4.blk N3 (fun q => q.elim (fun q => by have := k02.size; omega) (fun q => by have := hvl _ q; have := k02.size; omega))
  have hp4 : Sl rInt X w4 (.slice pa x.pages.length pc) x.pages := (hp.keep k3).step s4 (fun j q => q.elim (fun q => by rw [q]; exact h3.xb) (fun q => h3.xv j q))
  clear E3c E3f E3l N3c N3f N3l
  have N4c := blk_cell N4; have N4f := blk_free N4; have N4l := blk_lt N4
  simp -dsimp [go_sem, N4c, N4f, N4l]
  have hpg := hxo.pg
  refine loop_intro (σ := Nat × Value) (fun t => [t.2, .int .i64 t.1]) (fun t w' => t.1 ≤ x.pages.length ∧ Keep w4 w' ∧ Ow rInt 3 (fun _ => True) w' t.2 ((x.pages.take t.1).filter (fun x => !decide (x = 0))) ∧ ∀ j, ownB t.2 = some j → w4.heap.size ≤ j) (fun t => x.pages.length - t.1) (0, .slice none 0 0) (by simp -dsimp [go_sem]; rfl) (by simp -dsimp [go_sem]) ⟨Nat.zero_le _, Keep.refl _, by simpa using Ow.nil _ _ _ _, by simp [ownB]⟩ ?_
  rintro ⟨i', u⟩ w5 ⟨hi', k5, o5, b5⟩
  simp only at hi' o5 b5
  simp -dsimp [go_sem]
  by_cases y1 : i' < x.pages.length
  rotate_left
  · obtain rfl : i' = x.pages.length := by omega
    rw [List.take_length] at o5
    obtain ⟨ua, uc, rfl, -⟩ := o5.slice
    simp -dsimp [go_sem, Nat.lt_irrefl]
    have h5 := h4.keep k5
    refine ⟨_, rfl, o5, fun j q => by have := b5 j q; omega, v4, h5, ((Step.trans (O := fun j => j = b ∨ ownB _ = some j) (Keep.any k03) s4 (fun j _ q => q))).then k5, fun j q => (b4 j q).imp id (fun q => by omega)⟩
  have hy : x.pages[i']? = some x.pages[i'] := List.getElem?_eq_getElem _
  generalize x.pages[i'] = y at hy
  obtain ⟨b6, off6, c6', e6, hb6, -, hc6, hy64⟩ := (hp4.keep k5).int hy
  cases e6
  have y2 : (i' : Int) < x.pages.length := by omega
  have hft : (x.pages.take (i' + 1)).filter (fun x => !decide (x = 0)) = if y = 0 then (x.pages.take i').filter (fun x => !decide (x = 0)) else (x.pages.take i').filter (fun x => !decide (x = 0)) ++ [y] := by
    rw [List.take_add_one, hy, List.filter_append]
    by_cases g : y = 0 <;> simp [g]
  by_cases gy : y = 0
  · rw [if_pos gy] at hft
    simp -dsimp [go_sem, y1, y2, hb6, hc6, gy]
    try simp -dsimp (disch := omega) only [IntWalk.i64_in, IntWalk.u64_in, IntWalk.u8_in]
    exact back_intro (i' + 1, u) (by simp -dsimp [go_sem]) (by simp -dsimp [go_sem]) ⟨by show i' + 1 ≤ _; omega, k5, by show Ow _ _ _ _ _ _; rw [hft]; exact o5, b5⟩ (by show x.pages.length - (i' + 1) < x.pages.length - i'; omega)
  · rw [if_neg gy] at hft
    simp -dsimp [go_sem, y1, y2, hb6, hc6, gy]
    generalize hW : w5.alloc _ = w6
    obtain ⟨C6, k6, z6⟩ := alloc1 hW
    clear hW
    refine app_int hy64 C6 (o5.keep k6) (Nat.le_trans (List.length_filter_le _ _) (by rw [List.length_take]; omega)) ?_
    intro v' w7 o7 s7 b7
    rw [← hft] at o7
    simp -dsimp [go_sem]
    try simp -dsimp (disch := omega) only [IntWalk.i64_in, IntWalk.u64_in, IntWalk.u8_in]
    exact back_intro (i' + 1, v') (by simp -dsimp [go_sem]) (by simp -dsimp [go_sem]) ⟨by show i' + 1 ≤ _; omega, Step.keep (Keep.trans k5 k6) s7 (fun j q => b5 j q), o7, fun j q => by have := k5.size; rcases (b7 j q).1 with q' | q'; exact b5 j q'; omega⟩ (by show x.pages.length - (i' + 1) < x.pages.length - i'; omega)
end Go.Proofs.YtdfjfagljngciaaGreat

set_option linter.all false
set_option maxRecDepth 100000
set_option maxHeartbeats 4000000
namespace Go.Proofs.YtdfjfagljngciaaGreat
open Go.RowKit Rx Go.MapKept

theorem RAt.wide {w w' : World} {X Y : Nat → Prop} {b : Nat} {v : Value} {s : St} (h : RAt w X b v s) (k : Keep w w') (hY : ∀ k, Y k → w.heap.size ≤ k ∧ k < w'.heap.size) : RAt w' (fun k => X k ∨ Y k) b v s :=
  ⟨k.blk h.hb (fun q => q), (h.ho.mono (fun i hi q => q.resolve_right (fun y => by have := hY i y; omega))).keep k, fun g q => .inl (h.xv g q), .inl h.xb, fun i q => q.elim (fun x => Nat.lt_of_lt_of_le (h.xl i x) k.size) (fun y => (hY i y).2)⟩
theorem RAt.mono {w : World} {X Y : Nat → Prop} {b : Nat} {v : Value} {s : St} (h : RAt w X b v s) (hb : Y b) (hv : ∀ g, ownB v = some g → Y g) (hY : ∀ k, Y k → X k) : RAt w Y b v s :=
  ⟨h.hb, h.ho.mono (fun _ _ q => hY _ q), hv, hb, fun k q => h.xl k (hY k q)⟩
theorem ref_Apply (X : Nat → Prop) (b : Nat) (v : Value) (s : St) (k : Nat) (hg : Good k s) (hk : k < 2 ^ 19) (e : Effect) (hok : e.ok) (hn : e.name.size < 2 ^ 62) (ho : e.other.size < 2 ^ 62) (ref : Int) (hr : I64 ref) (a : Option Addr) (c : Nat) (w : World) (h : RAt w X b v s) :
    Calls Tryz.prog 30 #[.pointer (some ⟨b, 0, none⟩), .agg (e.enc (.slice a e.data.length c)).toArray, .int .i64 ref] w fun r w' =>
      ∃ g v', r = .returned (.tuple #[g, .int .i64 (applyS s e ref).2.2]) ∧ Ow rInt 3 (fun _ => True) w' g (applyS s e ref).2.1 ∧ RAt w' (fun k => X k ∨ ownB v' = some k) b v' (applyS s e ref).1 ∧ Step (fun k => k = b ∨ ownB v = some k) w w' ∧ (∀ j, ownB g = some j → w.heap.size ≤ j) ∧ ∀ j, ownB v' = some j → ownB v = some j ∨ w.heap.size ≤ j := by
  have stay : ∀ w', Keep w w' → RAt w' (fun k => X k ∨ ownB v = some k) b v s := fun w' k => by
    have h' := h.keep k
    exact h'.mono (.inl h'.xb) (fun g q => .inr q) (fun j q => q.elim id (h'.xv j))
  refine calls_rx h30 Tryz.func30 rfl Tryz.mixed (by kernel_rfl) Tryz.results30 ?_
  unfold Effect.enc
  simp -dsimp [go_sem]
  generalize hW : w.alloc _ = W
  obtain ⟨E0, k0, z0⟩ := alloc1 hW
  clear hW
  have h0 := h.keep k0
  have E0c := blk_cell E0; have E0f := blk_free E0; have E0l := blk_lt E0
  try simp -dsimp [go_sem, E0c, E0f, E0l]
  refine (ref_Check e hok hn ho a c W).mono ?_; rintro _ w1 ⟨rfl, k1⟩; refine ret_intro ?_
  have h1 := h0.keep k1
  have k01 := Keep.trans k0 k1
  have E1 := k1.blk E0 (fun q => q)
  clear E0c E0f E0l
  have E1c := blk_cell E1; have E1f := blk_free E1; have E1l := blk_lt E1
  unfold applyS effC
  cases hb : effB e
  · rw [if_neg (by simp), if_neg (by simp)]
    simp -dsimp [go_sem, E1c, E1f, E1l]
    exact ⟨Ow.nil _ _ _ _, v, stay _ k01, k01.any, by simp [ownB], fun j q => .inl q⟩
  rw [if_pos rfl, if_pos rfl]
  simp -dsimp [go_sem, E1c, E1f, E1l]
  refine (ref_Copy X b v s (Nat.le_trans hg.len (by omega)) (fun n hn => ⟨Nat.le_trans (hg.ok n hn).pg (by decide), Nat.le_trans (hg.ok n hn).len (by omega)⟩) w1 h1).mono ?_; rintro _ w2 ⟨b', v2, rfl, h2, k2, hb2, hv2⟩; refine ret_intro ?_
  have k02 := Keep.trans k01 k2
  have E2 := k2.blk E1 (fun q => q)
  clear E1c E1f E1l
  have E2c := blk_cell E2; have E2f := blk_free E2; have E2l := blk_lt E2
  simp -dsimp [go_sem, E2c, E2f, E2l]
  refine (ref_does _ b' v2 s k hg hk e hok hb ref hr a c w2 h2).mono ?_
  rintro r w3 ⟨g, rfl, og, bg, v3, h3, s3, b3⟩
  refine ret_intro ?_
  have l02 := k02.size
  have l1 := k01.size
  have l3 := s3.size
  have k03 : Keep w w3 := Step.keep k02 s3 (fun j q => q.elim (fun q => by omega) (fun q => by have := hv2 j q; omega))
  cases hR : doesS s e ref with
  | none =>
    rw [hR] at og h3
    simp -dsimp [go_sem]
    exact ⟨Ow.nil _ _ _ _, v, stay _ k03, k03.any, by simp [ownB], fun j q => .inl q⟩
  | some R =>
    rw [hR] at og h3
    obtain ⟨t, gone⟩ := R
    simp only [Option.elim] at og h3
    have H3 := h3.hb
    have B3 := (h.keep k03).hb
    have hv3 : ∀ j, ownB v3 = some j → w1.heap.size ≤ j := fun j q => by
      rcases b3 j q with q' | q'
      · exact hv2 j q'
      · have := k2.size; omega
    have hbl := h.xl b h.xb
    have hv3l := fun j (q : ownB v3 = some j) => h3.ho.lt q
    have hxl := h.xl
    obtain ⟨va, vc, rfl, -⟩ := h3.ho.slice
    have H3c := blk_cell H3; have H3f := blk_free H3; have H3l := blk_lt H3; have B3c := blk_cell B3; have B3f := blk_free B3; have B3l := blk_lt B3
    simp -dsimp [go_sem, H3c, H3f, H3l, B3c, B3f, B3l]
    generalize hvv : Value.slice va t.L.length vc = v3 at *
    have sW : Step (fun j => j = b) w3 ((w3.setCell ⟨b, 0, none⟩ v3).setCell ⟨b, 1, none⟩ (.int .i64 t.last)).drew := Step.drew (((Step.refl (fun j => j = b) w3).set (.inl rfl) _).set (.inl rfl) _)
    have B4 : ((w3.setCell ⟨b, 0, none⟩ v3).setCell ⟨b, 1, none⟩ (.int .i64 t.last)).drew.heap[b]? = some (.cells #[v3, .int .i64 t.last] 86 (0, 0)) := blk_eq (blk_set (blk_set B3 0 _) 1 _) (by first | rfl | simp)
    generalize ((w3.setCell ⟨b, 0, none⟩ v3).setCell ⟨b, 1, none⟩ (.int .i64 t.last)).drew = w4 at sW B4 ⊢
    have l4 := sW.size
    have o4 : Ow rNode 42 (fun k => X k ∨ ownB v3 = some k) w4 v3 t.L := (h3.ho.mono (Y := fun k => X k ∨ ownB v3 = some k) (fun j _ q => q.elim (fun q => .inl (.inl q)) .inr)).step sW (fun j q => .inl (by rw [q]; exact h.xb)) (fun j hj q => by have := hv3 j hj; omega)
    refine ⟨og.flat flat_int sW (fun j hj q => by have := bg j hj; omega), v3, ⟨B4, o4, fun j q => .inr q, .inl h.xb, fun j q => ?_⟩, (Keep.any k03).trans sW (fun j _ q => .inl q), fun j q => by have := bg j q; omega, fun j q => .inr (by have := hv3 j q; omega)⟩
    rcases q with q | q
    · have := hxl j q; omega
    · have := hv3l j q; omega
end Go.Proofs.YtdfjfagljngciaaGreat
