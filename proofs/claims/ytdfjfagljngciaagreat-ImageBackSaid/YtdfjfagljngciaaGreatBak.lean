/- Plain laws of states: what is done and undone leaves all as it was. -/
import Derived.Test.YtdfjfagljngciaaGreatTrf
set_option linter.all false
set_option maxRecDepth 100000
set_option maxHeartbeats 4000000
namespace Go.Proofs.YtdfjfagljngciaaGreat
open Go.RowKit Rx Go.MapKept

theorem set_self {L : List Node} (hI : Inos L) {n : Node} (hn : n ∈ L) : setL L n = L := by
  rw [setL_len (by rw [getL_mem hI hn]; rfl)]
  conv => rhs; rw [← List.map_id L]
  apply List.map_congr_left
  intro x hx
  split
  · rename_i g; exact (inos_inj hI hx hn g).symm
  · rfl
theorem set_set {L : List Node} {a b : Node} (ha : (getL L a.ino).isSome = true) (he : a.ino = b.ino) : setL (setL L a) b = setL L b := by
  rw [setL_len (by rw [← he]; exact getL_setL ha), setL_len ha, setL_len (by rw [← he]; exact ha), List.map_map]
  apply List.map_congr_left
  intro x _
  simp only [Function.comp]
  by_cases g : x.ino = a.ino
  · rw [if_pos g, if_pos he, if_pos (g.trans he)]
  · rw [if_neg g]
/-- A link that is taken away again. -/
theorem back_link {k : Nat} {s t : St} (hg : Good k s) (ht : Tr (fun _ => 0) s) {a b : Effect} (hb : b.dir = a.dir ∧ b.name = a.name ∧ b.ino = a.ino ∧ b.kind = 3) (h : linkS s a = some t) : removeS t b = some s := by
  obtain ⟨b1, b2, b3, b4⟩ := hb
  unfold linkS at h
  simp only at h
  split at h
  · rename_i g
    obtain ⟨g1, g2, g3, g4, g5⟩ := g
    simp only [Option.some.injEq] at h
    subst h
    obtain ⟨d1, d2, d3⟩ := dirN_mem hg g1
    obtain ⟨f1, f2, f3⟩ := fileN_mem hg g2
    obtain ⟨p1, p2⟩ := put_new g3
    rw [p1]
    have hne : a.dir ≠ a.ino := fun q => by rw [q, f3] at d3; omega
    have hgd : getL s.L a.dir = some (dirN s a.dir) := by have := getL_mem hg.inos d1; rw [d2] at this; exact this
    have hgf : getL s.L a.ino = some (dirN s a.ino) := by have := getL_mem hg.inos f1; rw [f2] at this; exact this
    generalize hD : ({ dirN s a.dir with names := insE (dirN s a.dir).names a.name a.ino } : Node) = D
    generalize hF : ({ dirN s a.ino with links := (dirN s a.ino).links + 1 } : Node) = F
    have hDi : D.ino = a.dir := by rw [← hD]; exact d2
    have hFi : F.ino = a.ino := by rw [← hF]; exact f2
    have hI1 : Inos (setL s.L D) := inos_setL hg.inos D
    have hI2 : Inos (setL (setL s.L D) F) := inos_setL hI1 F
    have hget : ∀ j, getL (setL (setL s.L D) F) j = if a.ino = j then some F else if a.dir = j then some D else getL s.L j := fun j => by
      rw [getL_set hI1, getL_set hg.inos, hFi, hDi]
    have gD : getL (setL (setL s.L D) F) a.dir = some D := by rw [hget, if_neg (fun q => hne q.symm), if_pos rfl]
    have gF : getL (setL (setL s.L D) F) a.ino = some F := by rw [hget, if_pos rfl]
    have hdD := dirN_some (s := ⟨setL (setL s.L D) F, s.last⟩) gD
    have hdF := dirN_some (s := ⟨setL (setL s.L D) F, s.last⟩) gF
    have hfind : findN D.names a.name = (a.ino, true) := by
      rw [← hD]
      exact find_one (srt_ins (ht.srt _ d1) p2) (mem_insE.2 (.inl rfl)) rfl
    have hmay : mayS ⟨setL (setL s.L D) F, s.last⟩ a.dir a.name a.ino 1 = true := by
      unfold mayS
      rw [isDir_get gD, hdD, hdF, hfind, gF]
      have e1 : D.kind = 2 := by rw [← hD]; exact d3
      have e2 : F.kind = 1 := by rw [← hF]; exact f3
      simp [e1, e2]
    unfold removeS
    rw [b1, b2, b3, b4, if_neg (by decide : ¬ (3 : Int) = 4), if_pos hmay]
    congr 1
    have hoffL : offL ⟨setL (setL s.L D) F, s.last⟩ a.dir a.name = setL s.L F := by
      unfold offL
      rw [hdD]
      have hback : ({ D with names := (dropE D.names a.name).1 } : Node) = dirN s a.dir := by
        rw [← hD]
        show ({ dirN s a.dir with names := (dropE (insE (dirN s a.dir).names a.name a.ino) a.name).1 } : Node) = _
        rw [drop_ins p2]
      rw [hback]
      show setL (setL (setL s.L D) F) (dirN s a.dir) = _
      rw [set_comm (a := D) (b := F) (by rw [hDi, hgd]; rfl) (by rw [hFi, hgf]; rfl) (by rw [hDi, hFi]; exact hne)]
      rw [set_set (a := D) (b := dirN s a.dir) (by rw [hDi, getL_set hg.inos, hFi, if_neg (fun q => hne q.symm), hgd]; rfl) (hDi.trans d2.symm)]
      rw [← set_comm (a := dirN s a.dir) (b := F) (by rw [d2, hgd]; rfl) (by rw [hFi, hgf]; rfl) (by rw [d2, hFi]; exact hne), set_self hg.inos d1]
    unfold offS
    rw [hoffL]
    have gF2 : getL (setL s.L F) a.ino = some F := by rw [getL_set hg.inos, if_pos hFi]
    rw [gF2, Option.getD_some, if_neg (by rw [← hF]; show ¬ (dirN s a.ino).kind = 2; omega)]
    have hFb : ({ F with links := F.links - 1 } : Node) = dirN s a.ino := by
      rw [← hF]
      show ({ dirN s a.ino with links := (dirN s a.ino).links + 1 - 1 } : Node) = _
      rw [show (dirN s a.ino).links + 1 - 1 = (dirN s a.ino).links from by omega]
    rw [hFb, set_set (a := F) (b := dirN s a.ino) (by rw [hFi, hgf]; rfl) (hFi.trans f2.symm), set_self hg.inos f1]
  · cases h
theorem Wi.trans {s : St} {i d x : Int} (h1 : Wi s i x) (h2 : Wi s d i) : Wi s d x := by
  induction h1 with
  | refl => exact h2
  | up q1 q2 _ ih => exact .up q1 q2 ih
/-- A directory is not within what is in it. -/
theorem no_cycle {P : Int → Int} {s : St} (ht : Tr P s) {d : Int} (hd : Wi s 1 d) : ∀ i, i ≠ 1 → Wi s i d → isDir s i = true → (dirN s i).up ≠ i → (dirN s i).up = d → False := by
  induction hd with
  | refl =>
    intro i h1 hw _ _ _
    have hr := ht.rup
    generalize hx : (1 : Int) = x at hw hr h1
    cases hw with
    | refl => exact h1 rfl
    | up _ q2 _ => exact q2 hr
  | @up d q1 q2 _ ih =>
    intro i h1 hw hi hu hd
    have hd1 : d ≠ 1 := fun e => q2 (by rw [e]; exact ht.rup)
    have hdi : Wi s d i := .up hi hu (by rw [hd]; exact .refl)
    generalize hx : d = x at hw
    cases hw with
    | refl => exact hu (hd.trans hx)
    | up _ _ r3 =>
      rw [← hx] at r3
      exact ih d hd1 (r3.trans hdi) q1 q2 rfl
/-- Nodes by number tell all. -/
theorem list_same {L L' : List Node} (hI : Inos L) (h1 : L'.map (·.ino) = L.map (·.ino)) (h2 : ∀ j, getL L' j = getL L j) : L' = L := by
  have hI' : Inos L' := by unfold Inos; rw [h1]; exact hI
  apply List.ext_getElem?
  intro i
  have h3 := congrArg (fun l => l[i]?) h1
  simp only [List.getElem?_map] at h3
  cases hx : L'[i]? with
  | none =>
    rw [hx] at h3
    cases hy : L[i]? with
    | none => rfl
    | some y => rw [hy] at h3; cases h3
  | some x =>
    rw [hx] at h3
    cases hy : L[i]? with
    | none => rw [hy] at h3; cases h3
    | some y =>
      rw [hy] at h3
      have he : x.ino = y.ino := by simpa using h3
      have e1 := getL_mem hI' (List.mem_of_getElem? hx)
      have e2 := getL_mem hI (List.mem_of_getElem? hy)
      rw [h2, he, e2] at e1
      exact e1.symm
theorem inos_keep {L : List Node} {n : Node} (h : (getL L n.ino).isSome = true) : (setL L n).map (·.ino) = L.map (·.ino) := by
  rw [setL_len h, map_inos]
/-- What a move comes to, node by node. -/
theorem move_get {k : Nat} {s : St} (hg : Good k s) {e : Effect} {kind : Int} (h1 : isDir s e.dir = true) (h2 : isDir s e.to = true) (h3 : (getL s.L e.ino).isSome = true) (hid : e.ino ≠ e.dir) (hit : e.ino ≠ e.to) {T : Node}
    (hT : T = if e.dir = e.to then { dirN s e.dir with names := (dropE (dirN s e.dir).names e.name).1 } else dirN s e.to) :
    (moveS s e kind).L.map (·.ino) = s.L.map (·.ino) ∧ (moveS s e kind).last = s.last ∧ ∀ j, getL (moveS s e kind).L j = if e.ino = j then some (if kind = 2 then { dirN s e.ino with up := e.to } else dirN s e.ino) else if e.to = j then some { T with names := (putE T.names e.other e.ino).1 }
      else if e.dir = j then some { dirN s e.dir with names := (dropE (dirN s e.dir).names e.name).1 } else getL s.L j := by
  obtain ⟨d1, d2, d3⟩ := dirN_mem hg h1
  obtain ⟨t1, t2, t3⟩ := dirN_mem hg h2
  obtain ⟨-, n2, n3⟩ := hg.node h3
  have hgd : getL s.L e.dir = some (dirN s e.dir) := by have := getL_mem hg.inos d1; rw [d2] at this; exact this
  have hgt : getL s.L e.to = some (dirN s e.to) := by have := getL_mem hg.inos t1; rw [t2] at this; exact this
  have hgi : getL s.L e.ino = some (dirN s e.ino) := by have := getL_mem hg.inos n3; rw [n2] at this; exact this
  unfold moveS
  simp only
  generalize hD : ({ dirN s e.dir with names := (dropE (dirN s e.dir).names e.name).1 } : Node) = D at hT ⊢
  have hDi : D.ino = e.dir := by rw [← hD]; exact d2
  have g2 : ∀ j, getL (setL s.L D) j = if e.dir = j then some D else getL s.L j := fun j => by rw [getL_set hg.inos, hDi]
  have m2 : (setL s.L D).map (·.ino) = s.L.map (·.ino) := inos_keep (by rw [hDi, hgd]; rfl)
  have hI2 := inos_setL hg.inos D
  generalize setL s.L D = L2 at g2 m2 hI2 ⊢
  have hTt : dirN ⟨L2, s.last⟩ e.to = T := by
    by_cases g : e.dir = e.to
    · rw [hT, if_pos g, dirN_some (s := ⟨L2, s.last⟩) (n := D) (by rw [g2, if_pos g])]
    · rw [hT, if_neg g, dirN_some (s := ⟨L2, s.last⟩) (n := dirN s e.to) (by rw [g2, if_neg g]; exact hgt)]
  have hTi : T.ino = e.to := by
    rw [hT]; split
    · rename_i g; rw [hDi]; exact g
    · exact t2
  rw [hTt]
  generalize hV : ({ T with names := (putE T.names e.other e.ino).1 } : Node) = V
  have hVi : V.ino = e.to := by rw [← hV]; exact hTi
  have hgt2 : (getL L2 e.to).isSome = true := by rw [g2]; split; rfl; rw [hgt]; rfl
  have g3 : ∀ j, getL (setL L2 V) j = if e.to = j then some V else getL L2 j := fun j => by rw [getL_set hI2, hVi]
  have m3 : (setL L2 V).map (·.ino) = s.L.map (·.ino) := (inos_keep (by rw [hVi]; exact hgt2)).trans m2
  have hI3 := inos_setL hI2 V
  generalize setL L2 V = L3 at g3 m3 hI3 ⊢
  have hg3 : getL L3 e.ino = some (dirN s e.ino) := by rw [g3, if_neg (fun q => hit q.symm), g2, if_neg (fun q => hid q.symm)]; exact hgi
  by_cases hk : kind = 2
  · rw [if_pos hk]
    rw [dirN_some (s := ⟨L3, s.last⟩) hg3]
    refine ⟨(inos_keep (by show (getL L3 (dirN s e.ino).ino).isSome = true; rw [n2, hg3]; rfl)).trans m3, rfl, fun j => ?_⟩
    show getL (setL L3 { dirN s e.ino with up := e.to }) j = _
    rw [getL_set hI3]
    show (if (dirN s e.ino).ino = j then _ else _) = _
    by_cases g : e.ino = j
    · rw [if_pos (n2.trans g), if_pos g, if_pos hk]
    · rw [if_neg (fun q => g (n2.symm.trans q)), if_neg g, g3, g2]
  · rw [if_neg hk, if_neg hk]
    refine ⟨m3, rfl, fun j => ?_⟩
    show getL L3 j = _
    by_cases g : e.ino = j
    · rw [if_pos g, ← g]; exact hg3
    · rw [if_neg g, g3, g2]
theorem find_none {l : List Entry} {nm : ByteArray} (h : ∀ x ∈ l, x.name ≠ nm) : (findN l nm).2 = false := by
  cases hf : (findN l nm).2 with
  | false => rfl
  | true => obtain ⟨x, x1, x2, -⟩ := find_mem hf; exact absurd x2 (h x x1)
theorem put_ins {l : List Entry} {nm : ByteArray} {ino : Int} (h : ∀ x ∈ l, x.name ≠ nm) : (putE l nm ino).1 = insE l nm ino := by
  unfold putE
  have : ¬ hasE l nm = true := fun q => by
    unfold hasE at q
    obtain ⟨y, hy, hy2⟩ := List.any_eq_true.1 q
    exact h y hy (by simpa using hy2)
  rw [if_neg this]
theorem drop_no {l : List Entry} {nm : ByteArray} : ∀ x ∈ (dropE l nm).1, x.name ≠ nm := fun x hx => by
  have := (List.mem_filter.1 hx).2
  simpa using this
/-- A name that comes back to its place. -/
theorem back_rename {k : Nat} {s t : St} (hg : Good k s) (hk : k ≤ 2 ^ 18) (ht : Tr (fun _ => 0) s) {a b : Effect} (hc : nameC a.other = 0) (ha1 : 1 ≤ a.ino) (hb : b.dir = a.to ∧ b.name = a.other ∧ b.to = a.dir ∧ b.other = a.name ∧ b.ino = a.ino) (hno : (findN (dirN s a.to).names a.other).2 = false) (h : renameS s a = some t) : renameS t b = some s := by
  obtain ⟨b1, b2, b3, b4, b5⟩ := hb
  have hf := hg.fine (by omega)
  have htt := tree_rename hg (by omega) ht hc h
  obtain ⟨s1, hst, g1, g2, g3, g4, g5, g6, g7, -⟩ := rename_mid hf h
  rcases g7 with ⟨-, hs1⟩ | ⟨og, q1, -⟩
  rotate_left
  · rw [hno] at q1; cases q1
  rw [hs1] at hst
  clear hs1 s1
  have hgt := good_move hg (e := a) (kind := (dirN s a.ino).kind) g1 g2 g3 hc ha1
  obtain ⟨d1, d2, d3⟩ := dirN_mem hg g1
  obtain ⟨t1, t2, t3⟩ := dirN_mem hg g2
  obtain ⟨-, n2, n3⟩ := hg.node g3
  obtain ⟨x, x1, x2, x3⟩ := find_mem g4
  rw [g5] at x3
  have hxe : x = ⟨a.name, a.ino⟩ := by cases x; simp only at x2 x3; rw [x2, x3]
  have hno' := find_no hno
  obtain ⟨kn, kn1, kn2, kn3⟩ := ht.ex _ d1 x x1
  have hkn : kn = dirN s a.ino := inos_inj hg.inos kn1 n3 (kn2.trans (x3.trans n2.symm))
  subst hkn
  have hid : a.ino ≠ a.dir := fun q => by
    rw [q] at kn3
    obtain ⟨u1, u2⟩ := kn3 d3
    rw [d2] at u1 u2
    have haa := ht.anc _ d1 d3
    rw [d2] at haa
    generalize hi : a.dir = i at haa u1 u2
    cases haa with
    | refl => exact u2 rfl
    | up _ r2 _ => exact r2 u1
  have hit : a.ino ≠ a.to := fun q => by
    rw [← q] at t3
    exact g6 ⟨t3, withinS_iff.2 (by rw [← q]; exact .refl)⟩
  obtain ⟨T, hT⟩ : ∃ T, T = if a.dir = a.to then { dirN s a.dir with names := (dropE (dirN s a.dir).names a.name).1 } else dirN s a.to := ⟨_, rfl⟩
  have hTf : T.kind = 2 ∧ T.ino = a.to ∧ Srt T.names ∧ (∀ y ∈ T.names, y.name ≠ a.other) ∧ T.up = (dirN s a.to).up := by
    by_cases g : a.dir = a.to
    · rw [if_pos g] at hT
      rw [hT]
      exact ⟨d3, d2.trans g, srt_drop (ht.srt _ d1) _, fun y hy => hno' y (by rw [← g]; exact (List.mem_filter.1 hy).1), by rw [← g]⟩
    · rw [if_neg g] at hT
      rw [hT]
      exact ⟨t3, t2, ht.srt _ t1, hno', rfl⟩
  obtain ⟨T1, T2, T3, T4, T5⟩ := hTf
  obtain ⟨m1, m2, m3⟩ := move_get hg (e := a) (kind := (dirN s a.ino).kind) g1 g2 g3 hid hit hT
  rw [put_ins T4] at m3
  generalize hV : ({ T with names := insE T.names a.other a.ino } : Node) = V at m3
  generalize hD : ({ dirN s a.dir with names := (dropE (dirN s a.dir).names a.name).1 } : Node) = D at m3 hT
  generalize hN : (if (dirN s a.ino).kind = 2 then { dirN s a.ino with up := a.to } else dirN s a.ino : Node) = N at m3
  have hNk : N.kind = (dirN s a.ino).kind := by rw [← hN]; split <;> rfl
  have hNi : N.ino = a.ino := by rw [← hN]; split <;> exact n2
  rw [← hst] at m1 m2 m3 hgt
  have tV : getL t.L a.to = some V := by rw [m3, if_neg hit, if_pos rfl]
  have tN : getL t.L a.ino = some N := by rw [m3, if_pos rfl]
  have tD : getL t.L a.dir = some (if a.to = a.dir then V else D) := by rw [m3, if_neg hid]; split <;> simp_all
  have Vk : V.kind = 2 := by rw [← hV]; exact T1
  have Vn : V.names = insE T.names a.other a.ino := by rw [← hV]
  have Dk : (if a.to = a.dir then V else D).kind = 2 := by split; exact Vk; rw [← hD]; exact d3
  have hdV := dirN_some tV
  have hdN := dirN_some tN
  have hdD := dirN_some tD
  have hfV : findN V.names a.other = (a.ino, true) := by rw [Vn]; exact find_one (srt_ins T3 T4) (mem_insE.2 (.inl rfl)) rfl
  have hnD : ∀ y ∈ (if a.to = a.dir then V else D).names, y.name ≠ a.name := by
    by_cases g : a.to = a.dir
    · rw [if_pos g, Vn]
      intro y hy
      rw [if_pos g.symm] at hT
      rcases mem_insE.1 hy with rfl | q
      · intro e
        exact hno' x (by rw [g]; exact x1) (x2.trans e.symm)
      · rw [hT, ← hD] at q; exact drop_no y q
    · rw [if_neg g, ← hD]; exact drop_no
  have hcyc : ¬ (N.kind = 2 ∧ withinS t a.dir a.ino = true) := by
    rintro ⟨c1, c2⟩
    rw [hNk] at c1
    obtain ⟨u1, u2⟩ := kn3 c1
    rw [n2] at u2
    rw [d2] at u1
    have hw : ∀ i, Wi t a.ino i → Wi s a.ino i := fun i hi => by
      induction hi with
      | refl => exact .refl
      | @up i r1 r2 _ ih =>
        by_cases gi : a.ino = i
        · rw [← gi]; exact .refl
        · obtain ⟨z, z1, z2⟩ := isDir_iff.1 r1
          have hz := m3 i
          rw [if_neg gi, z1] at hz
          have hup : isDir s i = true ∧ (dirN s i).up = z.up := by
            by_cases e1 : a.to = i
            · rw [if_pos e1] at hz
              have := Option.some.inj hz
              rw [this, ← e1]
              exact ⟨g2, by rw [← hV]; exact T5.symm⟩
            · rw [if_neg e1] at hz
              by_cases e2 : a.dir = i
              · rw [if_pos e2] at hz
                have := Option.some.inj hz
                rw [this, ← e2]
                exact ⟨g1, by rw [← hD]⟩
              · rw [if_neg e2] at hz
                exact ⟨isDir_iff.2 ⟨z, hz.symm, z2⟩, by rw [dirN_some hz.symm]⟩
          rw [dirN_some z1] at r2 ih
          exact .up hup.1 (by rw [hup.2]; exact r2) (by rw [hup.2]; exact ih)
    have hin : isDir s a.ino = true := by
      obtain ⟨w, w1⟩ := Option.isSome_iff_exists.1 g3
      exact isDir_iff.2 ⟨w, w1, by rw [dirN_some w1] at c1; exact c1⟩
    have hwd := ht.anc _ d1 d3
    rw [d2] at hwd
    exact no_cycle ht hwd a.ino u2 (hw _ (withinS_iff.1 c2)) hin (by rw [u1]; exact fun q => hid q.symm) u1
  have tdir : isDir t a.to = true := isDir_iff.2 ⟨V, tV, Vk⟩
  have ddir : isDir t a.dir = true := isDir_iff.2 ⟨_, tD, Dk⟩
  unfold renameS
  simp only
  rw [b1, b2, b3, b4, b5, hdV, hdN, hdD, hfV, tN]
  rw [if_pos ⟨tdir, rfl, rfl, ddir, rfl, hcyc⟩, if_neg (by rw [find_none hnD]; simp)]
  congr 1
  obtain ⟨U, hU⟩ : ∃ U, U = if a.to = a.dir then { V with names := (dropE V.names a.other).1 } else D := ⟨_, rfl⟩
  have hU' : U = if b.dir = b.to then { dirN t b.dir with names := (dropE (dirN t b.dir).names b.name).1 } else dirN t b.to := by
    rw [b1, b2, b3, hdV, hdD, hU]
    by_cases g : a.to = a.dir
    · rw [if_pos g, if_pos g]
    · rw [if_neg g, if_neg g, if_neg g]
  obtain ⟨r1, r2, r3⟩ := move_get hgt (e := b) (kind := N.kind) (by rw [b1]; exact tdir) (by rw [b3]; exact ddir) (by rw [b5, tN]; rfl) (by rw [b5, b1]; exact hit) (by rw [b5, b3]; exact hid) hU'
  rw [b1, b2, b3, b4, b5, hdV, hdN] at r3
  have hVn : (dropE V.names a.other).1 = T.names := by rw [Vn]; exact drop_ins T4
  have hDn : D.names = (dropE (dirN s a.dir).names a.name).1 := by rw [← hD]
  have hUn : U.names = (dropE (dirN s a.dir).names a.name).1 := by
    rw [hU]
    by_cases g : a.to = a.dir
    · rw [if_pos g]; show (dropE V.names a.other).1 = _; rw [hVn, hT, if_pos g.symm, hDn]
    · rw [if_neg g, hDn]
  have hback : ({ U with names := (putE U.names a.name a.ino).1 } : Node) = dirN s a.dir := by
    have hn : (putE U.names a.name a.ino).1 = (dirN s a.dir).names := by
      rw [put_ins (by rw [hUn]; exact drop_no), hUn]
      exact ins_drop (ht.srt _ d1) x1 hxe
    rw [hn, hU]
    by_cases g : a.to = a.dir
    · rw [if_pos g, ← hV, hT, if_pos g.symm, ← hD]
    · rw [if_neg g, ← hD]
  have hNb : (if N.kind = 2 then { N with up := a.dir } else N) = dirN s a.ino := by
    rw [hNk]
    by_cases g : (dirN s a.ino).kind = 2
    · rw [if_pos g] at hN ⊢
      rw [← hN]
      have hu := (kn3 g).1
      rw [d2] at hu
      rw [← hu]
    · rw [if_neg g] at hN ⊢
      exact hN.symm
  have hgd : getL s.L a.dir = some (dirN s a.dir) := by have := getL_mem hg.inos d1; rw [d2] at this; exact this
  have hgto : getL s.L a.to = some (dirN s a.to) := by have := getL_mem hg.inos t1; rw [t2] at this; exact this
  have hgi : getL s.L a.ino = some (dirN s a.ino) := by have := getL_mem hg.inos n3; rw [n2] at this; exact this
  have hlist : (moveS t b N.kind).L = s.L := list_same hg.inos (r1.trans m1) (fun j => by
    rw [r3, hNb, hback]
    by_cases e1 : a.ino = j
    · rw [if_pos e1, ← e1, hgi]
    rw [if_neg e1]
    by_cases e2 : a.dir = j
    · rw [if_pos e2, ← e2, hgd]
    rw [if_neg e2]
    by_cases e3 : a.to = j
    · have g : ¬ a.dir = a.to := fun q => e2 (q.trans e3)
      rw [if_pos e3, ← e3, hgto, hVn, ← hV]
      congr 1
      rw [if_neg g] at hT
      rw [← hT]
    rw [if_neg e3, m3, if_neg e1, if_neg e3, if_neg e2])
  have hlast : (moveS t b N.kind).last = s.last := r2.trans m2
  generalize moveS t b N.kind = q at hlist hlast
  cases q; cases s
  simp only at hlist hlast
  rw [hlist, hlast]
end Go.Proofs.YtdfjfagljngciaaGreat
