/- Plain laws of states: references of their own stay apart. -/
import Derived.Test.YtdfjfagljngciaaGreatBak
set_option linter.all false
set_option maxRecDepth 100000
set_option maxHeartbeats 4000000
namespace Go.Proofs.YtdfjfagljngciaaGreat
open Go.RowKit Rx Go.MapKept

/-- All references are apart, and at most m. -/
structure Rfs (m : Int) (s : St) : Prop where
  own : ∀ n ∈ s.L, (refsN n).Nodup ∧ ∀ r ∈ refsN n, 1 ≤ r ∧ r ≤ m
  ap : ∀ a ∈ s.L, ∀ b ∈ s.L, a.ino ≠ b.ino → ∀ r ∈ refsN a, r ∉ refsN b
theorem Rfs.mono {m m' : Int} {s : St} (h : Rfs m s) (hm : m ≤ m') : Rfs m' s :=
  ⟨fun n hn => ⟨(h.own n hn).1, fun r hr => by have := (h.own n hn).2 r hr; omega⟩, h.ap⟩
theorem Rfs.nodup {m : Int} {s : St} (h : Rfs m s) (hI : Inos s.L) : (refsS s).Nodup := by
  unfold refsS
  rw [List.Nodup, List.pairwise_flatMap]
  refine ⟨fun n hn => (h.own n hn).1, ?_⟩
  unfold Inos at hI
  rw [List.Nodup, List.pairwise_map] at hI
  exact hI.imp_of_mem (fun {a b} ha hb hab x hx y hy e => h.ap a ha b hb hab x hx (e ▸ hy))
/-- A node that has no references but its own, and new ones. -/
theorem Rfs.set {m m' : Int} {s : St} (h : Rfs m s) (hm : m ≤ m') {n n' : Node} (hn : n ∈ s.L ∨ refsN n = []) (hi : n ∈ s.L → n'.ino = n.ino) (hd : (refsN n').Nodup) (hs : ∀ r ∈ refsN n', r ∈ refsN n ∨ (m < r ∧ r ≤ m' ∧ 1 ≤ r)) (last : Int) : Rfs m' ⟨setL s.L n', last⟩ := by
  have hmem : ∀ {x : Node}, x ∈ setL s.L n' → x = n' ∨ (x ∈ s.L ∧ x.ino ≠ n'.ino) := fun hx => mem_setL.1 hx
  have hnr : ∀ r ∈ refsN n, n ∈ s.L := fun r hr => hn.resolve_right (fun e => by rw [e] at hr; cases hr)
  refine ⟨fun x hx => ?_, fun a ha b hb hab r hr => ?_⟩
  · rcases hmem hx with rfl | ⟨q, -⟩
    · refine ⟨hd, fun r hr => ?_⟩
      rcases hs r hr with g | g
      · have := (h.own n (hnr r g)).2 r g; omega
      · omega
    · exact ⟨(h.own x q).1, fun r hr => by have := (h.own x q).2 r hr; omega⟩
  · rcases hmem ha with rfl | ⟨qa, qa'⟩
    · rcases hmem hb with rfl | ⟨qb, qb'⟩
      · exact absurd rfl hab
      · intro hrb
        rcases hs r hr with g | g
        · have hnl := hnr r g
          exact h.ap n hnl b qb (fun e => qb' (e.symm.trans (hi hnl).symm)) r g hrb
        · have := (h.own b qb).2 r hrb; omega
    · rcases hmem hb with rfl | ⟨qb, qb'⟩
      · intro hrb
        rcases hs r hrb with g | g
        · have hnl := hnr r g
          exact h.ap a qa n hnl (fun e => qa' (e.trans (hi hnl).symm)) r hr g
        · have := (h.own a qa).2 r hr; omega
      · exact h.ap a qa b qb hab r hr
theorem Rfs.del {m : Int} {s : St} (h : Rfs m s) (i last : Int) : Rfs m ⟨delL s.L i, last⟩ :=
  ⟨fun n hn => h.own n (mem_delL.1 hn).1, fun a ha b hb => h.ap a (mem_delL.1 ha).1 b (mem_delL.1 hb).1⟩
/-- A node whose pages stay. -/
theorem Rfs.same {m : Int} {s : St} (h : Rfs m s) {n n' : Node} (hn : n ∈ s.L) (hi : n'.ino = n.ino) (hp : n'.pages = n.pages) (last : Int) : Rfs m ⟨setL s.L n', last⟩ := by
  have e : refsN n' = refsN n := by unfold refsN; rw [hp]
  exact h.set (Int.le_refl _) (.inl hn) (fun _ => hi) (by rw [e]; exact (h.own n hn).1) (fun r hr => .inl (e ▸ hr)) last
theorem refs_resize {n : Node} (size : Int) (hd : (refsN n).Nodup) : (refsN (resizeN n size).1).Nodup ∧ ∀ r ∈ refsN (resizeN n size).1, r ∈ refsN n := by
  unfold resizeN
  split
  · exact ⟨hd, fun r hr => hr⟩
  · simp only
    split
    · have hs : (refsN { n with size := size, pages := n.pages.take (needI size).toNat }).Sublist (refsN n) := (List.take_sublist _ _).filter _
      exact ⟨hs.nodup hd, fun r hr => hs.subset hr⟩
    · have e : refsN { n with size := size, pages := n.pages ++ List.replicate ((needI size).toNat - n.pages.length) 0 } = refsN n := by
        unfold refsN
        rw [List.filter_append]
        have : (List.replicate ((needI size).toNat - n.pages.length) (0 : Int)).filter (fun x => !decide (x = 0)) = [] := by
          rw [List.filter_eq_nil_iff]
          intro x hx
          rw [List.eq_of_mem_replicate hx]; simp
        rw [this, List.append_nil]
      rw [e]
      exact ⟨hd, fun r hr => hr⟩
theorem filter_set (r : Int) : ∀ (l : List Int) (i : Nat), (l.filter (fun x => !decide (x = 0))).Nodup → r ∉ l → ((l.set i r).filter (fun x => !decide (x = 0))).Nodup ∧ ∀ x ∈ (l.set i r).filter (fun x => !decide (x = 0)), x ∈ l.filter (fun x => !decide (x = 0)) ∨ x = r
  | [], _, h, _ => ⟨by simpa using h, by simp⟩
  | y :: l, 0, h, hr => by
    have hr2 : r ∉ l := fun q => hr (List.mem_cons_of_mem _ q)
    have hl : (l.filter (fun x => !decide (x = 0))).Nodup := (((List.sublist_cons_self y l).filter _).nodup h)
    rw [List.set_cons_zero, List.filter_cons]
    split
    · refine ⟨List.nodup_cons.2 ⟨fun q => hr2 (List.mem_filter.1 q).1, hl⟩, fun x hx => ?_⟩
      rcases List.mem_cons.1 hx with rfl | q
      · exact .inr rfl
      · exact .inl (((List.sublist_cons_self y l).filter _).subset q)
    · exact ⟨hl, fun x hx => .inl (((List.sublist_cons_self y l).filter _).subset hx)⟩
  | y :: l, i + 1, h, hr => by
    have hr2 : r ∉ l := fun q => hr (List.mem_cons_of_mem _ q)
    have hl : (l.filter (fun x => !decide (x = 0))).Nodup := (((List.sublist_cons_self y l).filter _).nodup h)
    obtain ⟨i1, i2⟩ := filter_set r l i hl hr2
    rw [List.set_cons_succ, List.filter_cons]
    by_cases g : y = 0
    · rw [if_neg (by simp [g])]
      exact ⟨i1, fun x hx => (i2 x hx).imp (fun q => ((List.sublist_cons_self y l).filter _).subset q) id⟩
    · rw [if_pos (by simp [g])]
      rw [List.filter_cons, if_pos (by simp [g]), List.nodup_cons] at h
      refine ⟨List.nodup_cons.2 ⟨fun q => ?_, i1⟩, fun x hx => ?_⟩
      · rcases i2 y q with q' | q'
        · exact h.1 q'
        · exact hr (by rw [← q']; exact List.mem_cons_self ..)
      · rw [List.filter_cons, if_pos (by simp [g])]
        rcases List.mem_cons.1 hx with rfl | q
        · exact .inl (List.mem_cons_self ..)
        · exact (i2 x q).imp (List.mem_cons_of_mem _) id
theorem refs_off {k : Nat} {s : St} (hg : Good k s) {m : Int} (h : Rfs m s) {dir : Int} {nm : ByteArray} {ino : Int} (hd : isDir s dir = true) (hi : (getL s.L ino).isSome = true) : Rfs m (offS s dir nm ino) := by
  obtain ⟨d1, d2, d3⟩ := dirN_mem hg hd
  have h1 : Rfs m ⟨offL s dir nm, s.last⟩ := h.same (n := dirN s dir) (n' := { dirN s dir with names := (dropE (dirN s dir).names nm).1 }) d1 rfl rfl s.last
  have hi2 : (getL (offL s dir nm) ino).isSome = true := getL_setL hi
  obtain ⟨x, hx⟩ := Option.isSome_iff_exists.1 hi2
  unfold offS
  rw [hx, Option.getD_some]
  split
  · exact h1.del ino s.last
  · exact h1.same (n := x) (n' := { x with links := x.links - 1 }) (getL_some hx).1 rfl rfl s.last
theorem refs_does {k : Nat} {s t : St} (hg : Good k s) (hk : k ≤ 2 ^ 19) {m : Int} (hm : 0 ≤ m) (h : Rfs m s) {e : Effect} (he : effB e = true) {gone : List Int} (hd : doesS s e (m + 1) = some (t, gone)) : Rfs (m + 1) t := by
  have hf := hg.fine hk
  unfold doesS at hd
  split at hd
  · obtain ⟨t', h', q⟩ := Option.map_eq_some_iff.1 hd
    simp only [Prod.mk.injEq] at q
    obtain ⟨rfl, -⟩ := q
    unfold makeS at h'
    simp only at h'
    split at h'
    · rename_i g
      simp only [Option.some.injEq] at h'
      subst h'
      obtain ⟨d1, d2, d3⟩ := dirN_mem hg g.1
      have h1 := h.same (n' := { dirN s e.dir with names := (putE (dirN s e.dir).names e.name e.ino).1 }) d1 rfl rfl s.last
      exact (h1.set (m' := m + 1) (by omega) (n := newN e.ino e.page e.dir) (.inr rfl) (fun _ => rfl) (by show ([] : List Int).Nodup; exact List.nodup_nil) (fun r hr => by cases hr) e.ino)
    · cases h'
  split at hd
  · obtain ⟨t', h', q⟩ := Option.map_eq_some_iff.1 hd
    simp only [Prod.mk.injEq] at q
    obtain ⟨rfl, -⟩ := q
    unfold linkS at h'
    simp only at h'
    split at h'
    · rename_i g
      simp only [Option.some.injEq] at h'
      subst h'
      obtain ⟨d1, d2, d3⟩ := dirN_mem hg g.1
      obtain ⟨f1, f2, f3⟩ := fileN_mem hg g.2.1
      have h1 := h.same (n' := { dirN s e.dir with names := (putE (dirN s e.dir).names e.name e.ino).1 }) d1 rfl rfl s.last
      have hfm : dirN s e.ino ∈ setL s.L { dirN s e.dir with names := (putE (dirN s e.dir).names e.name e.ino).1 } := mem_setL.2 (.inr ⟨f1, fun q => by
        have := inos_inj hg.inos f1 d1 q
        rw [this] at f3; omega⟩)
      exact (h1.same (n' := { dirN s e.ino with links := (dirN s e.ino).links + 1 }) hfm rfl rfl s.last).mono (by omega)
    · cases h'
  split at hd
  · obtain ⟨t', h', q⟩ := Option.map_eq_some_iff.1 hd
    simp only [Prod.mk.injEq] at q
    obtain ⟨rfl, -⟩ := q
    unfold removeS at h'
    by_cases g : mayS s e.dir e.name e.ino (if e.kind = 4 then 2 else 1) = true
    · rw [if_pos g] at h'
      simp only [Option.some.injEq] at h'
      subst h'
      exact (refs_off hg h (mayS_dir g).1 (mayS_dir g).2).mono (by omega)
    · rw [if_neg g] at h'; cases h'
  split at hd
  · obtain ⟨t', h', q⟩ := Option.map_eq_some_iff.1 hd
    simp only [Prod.mk.injEq] at q
    obtain ⟨rfl, -⟩ := q
    obtain ⟨s1, rfl, g1, g2, g3, g4, g5, g6, g7, g8, g9, g10⟩ := rename_mid hf h'
    have mv : ∀ {k1 : Nat} {s1 : St}, Good k1 s1 → Rfs m s1 → isDir s1 e.dir = true → isDir s1 e.to = true → (getL s1.L e.ino).isSome = true → Rfs m (moveS s1 e (dirN s e.ino).kind) := fun {k1 s1} hg1 h1 q1 q2 q3 => by
      obtain ⟨d1, d2, d3⟩ := dirN_mem hg1 q1
      unfold moveS
      simp only
      have h2 := h1.same (n' := { dirN s1 e.dir with names := (dropE (dirN s1 e.dir).names e.name).1 }) d1 rfl rfl s1.last
      have e2 : (getL (setL s1.L { dirN s1 e.dir with names := (dropE (dirN s1 e.dir).names e.name).1 }) e.to).isSome = true := getL_setL (isDir_some q2).1
      have e3 : (getL (setL s1.L { dirN s1 e.dir with names := (dropE (dirN s1 e.dir).names e.name).1 }) e.ino).isSome = true := getL_setL q3
      generalize setL s1.L { dirN s1 e.dir with names := (dropE (dirN s1 e.dir).names e.name).1 } = L2 at h2 e2 e3 ⊢
      obtain ⟨T, hT⟩ := Option.isSome_iff_exists.1 e2
      rw [dirN_some (s := ⟨L2, s1.last⟩) hT]
      have h3 := h2.same (n' := { T with names := (putE T.names e.other e.ino).1 }) (getL_some hT).1 rfl rfl s1.last
      have e4 : (getL (setL L2 { T with names := (putE T.names e.other e.ino).1 }) e.ino).isSome = true := getL_setL e3
      generalize setL L2 { T with names := (putE T.names e.other e.ino).1 } = L3 at h3 e4 ⊢
      split
      · obtain ⟨N, hN⟩ := Option.isSome_iff_exists.1 e4
        rw [dirN_some (s := ⟨L3, s1.last⟩) hN]
        exact h3.same (n' := { N with up := e.to }) (getL_some hN).1 rfl rfl s1.last
      · exact h3
    refine Rfs.mono (m := m) ?_ (by omega)
    rcases g7 with ⟨-, rfl⟩ | ⟨og, q1, q2, q3, q4, rfl⟩
    · exact mv hg h g8 g9 g10
    · exact mv (good_offS hg g2 (mayS_dir q4).2) (refs_off hg h g2 (mayS_dir q4).2) g8 g9 g10
  split at hd
  · unfold truncS at hd
    split at hd
    · rename_i g
      simp only [Option.some.injEq, Prod.mk.injEq] at hd
      obtain ⟨rfl, -⟩ := hd
      obtain ⟨f1, f2, f3⟩ := fileN_mem hg g
      obtain ⟨r1, r2⟩ := refs_resize e.size (h.own _ f1).1
      exact h.set (by omega) (.inl f1) (fun _ => resizeN_ino _ _) r1 (fun r hr => .inl (r2 r hr)) s.last
    · cases hd
  split at hd
  · unfold writeS at hd
    split at hd
    · rename_i g
      simp only [Option.some.injEq, Prod.mk.injEq] at hd
      obtain ⟨rfl, -⟩ := hd
      obtain ⟨f1, f2, f3⟩ := fileN_mem hg g.1
      obtain ⟨r1, r2⟩ := refs_resize e.size (h.own _ f1).1
      have hnot : (m + 1) ∉ (resizeN (dirN s e.ino) e.size).1.pages := fun q => by
        have hq : (m + 1) ∈ refsN (resizeN (dirN s e.ino) e.size).1 := List.mem_filter.2 ⟨q, by simp; omega⟩
        have := (h.own _ f1).2 _ (r2 _ hq)
        omega
      obtain ⟨p1, p2⟩ := filter_set (m + 1) _ e.page.toNat r1 hnot
      refine h.set (m' := m + 1) (n' := (putN (dirN s e.ino) e.page.toNat (m + 1) e.size).1) (by omega) (.inl f1) (fun _ => resizeN_ino _ _) p1 (fun r hr => ?_) s.last
      rcases p2 r hr with q | q
      · exact .inl (r2 r q)
      · right; omega
    · cases hd
  · unfold dropS at hd
    split at hd
    · simp only [Option.some.injEq, Prod.mk.injEq] at hd
      obtain ⟨rfl, -⟩ := hd
      exact (h.del e.ino s.last).mono (by omega)
    · cases hd
end Go.Proofs.YtdfjfagljngciaaGreat
