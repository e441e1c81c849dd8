/- Plain laws of states: which numbers pages have plays no part in whether an effect can be, and in what is left. -/
import Derived.Test.YtdfjfagljngciaaGreatStl
set_option linter.all false
set_option maxRecDepth 100000
set_option maxHeartbeats 4000000
namespace Go.Proofs.YtdfjfagljngciaaGreat
open Go.RowKit Rx Go.MapKept

def sg (p : Int) : Int := if p = 0 then 0 else 1
theorem sg_zero {p : Int} : sg p = 0 ↔ p = 0 := by unfold sg; split <;> simp_all
/-- A node whose pages are there, or not. -/
def shpN (n : Node) : Node := { n with pages := n.pages.map sg }
def shpS (s : St) : St := ⟨s.L.map shpN, s.last⟩
theorem shp_node0 : shpN node0 = node0 := rfl
theorem getL_shp (L : List Node) (k : Int) : getL (L.map shpN) k = (getL L k).map shpN := by
  unfold getL
  rw [List.find?_map]
  rfl
theorem dirN_shp (s : St) (k : Int) : dirN (shpS s) k = shpN (dirN s k) := by
  unfold dirN
  rw [show (shpS s).L = s.L.map shpN from rfl, getL_shp]
  cases getL s.L k <;> rfl
theorem some_shp (s : St) (k : Int) : (getL (shpS s).L k).isSome = (getL s.L k).isSome := by
  rw [show (shpS s).L = s.L.map shpN from rfl, getL_shp]
  cases getL s.L k <;> rfl
theorem isDir_shp (s : St) (k : Int) : isDir (shpS s) k = isDir s k := by
  unfold isDir; rw [some_shp, dirN_shp]; rfl
theorem isFile_shp (s : St) (k : Int) : isFile (shpS s) k = isFile s k := by
  unfold isFile; rw [some_shp, dirN_shp]; rfl
theorem setL_shp (L : List Node) (n : Node) : setL (L.map shpN) (shpN n) = (setL L n).map shpN := by
  unfold setL
  rw [show (shpN n).ino = n.ino from rfl, getL_shp]
  have : ((getL L n.ino).map shpN).isSome = (getL L n.ino).isSome := by cases getL L n.ino <;> rfl
  rw [this]
  split
  · rw [List.map_map, List.map_map]
    apply List.map_congr_left
    intro x _
    simp only [Function.comp]
    rw [show (shpN x).ino = x.ino from rfl]
    split <;> rfl
  · rw [List.map_append]; rfl
theorem delL_shp (L : List Node) (k : Int) : delL (L.map shpN) k = (delL L k).map shpN := by
  unfold delL
  rw [List.filter_map]; rfl
theorem set_shp (s : St) (n : Node) (last : Int) : (⟨setL (shpS s).L (shpN n), last⟩ : St) = shpS ⟨setL s.L n, last⟩ := by
  show (⟨setL (s.L.map shpN) (shpN n), last⟩ : St) = _
  rw [setL_shp]; rfl
theorem makeS_shp (s : St) (e : Effect) : makeS (shpS s) e = (makeS s e).map shpS := by
  unfold makeS
  simp only
  rw [dirN_shp, isDir_shp]
  rw [show (shpN (dirN s e.dir)).names = (dirN s e.dir).names from rfl, show (shpS s).last = s.last from rfl]
  split
  · simp only [Option.map_some, Option.some.injEq]
    rw [show ({ shpN (dirN s e.dir) with names := (putE (dirN s e.dir).names e.name e.ino).1 } : Node) = shpN { dirN s e.dir with names := (putE (dirN s e.dir).names e.name e.ino).1 } from rfl,
      show newN e.ino e.page e.dir = shpN (newN e.ino e.page e.dir) from rfl, show (shpS s).L = s.L.map shpN from rfl, setL_shp, setL_shp]
    rfl
  · rfl
theorem linkS_shp (s : St) (e : Effect) : linkS (shpS s) e = (linkS s e).map shpS := by
  unfold linkS
  simp only
  rw [dirN_shp, dirN_shp, isDir_shp, isFile_shp]
  rw [show (shpN (dirN s e.dir)).names = (dirN s e.dir).names from rfl, show (shpS s).last = s.last from rfl, show (shpN (dirN s e.ino)).links = (dirN s e.ino).links from rfl]
  split
  · simp only [Option.map_some, Option.some.injEq]
    rw [show ({ shpN (dirN s e.dir) with names := (putE (dirN s e.dir).names e.name e.ino).1 } : Node) = shpN { dirN s e.dir with names := (putE (dirN s e.dir).names e.name e.ino).1 } from rfl,
      show ({ shpN (dirN s e.ino) with links := (dirN s e.ino).links + 1 } : Node) = shpN { dirN s e.ino with links := (dirN s e.ino).links + 1 } from rfl, show (shpS s).L = s.L.map shpN from rfl, setL_shp, setL_shp]
    rfl
  · rfl
theorem mayS_shp (s : St) (dir : Int) (nm : ByteArray) (ino kind : Int) : mayS (shpS s) dir nm ino kind = mayS s dir nm ino kind := by
  unfold mayS
  rw [dirN_shp, dirN_shp, isDir_shp, some_shp]
  rfl
theorem offL_shp (s : St) (dir : Int) (nm : ByteArray) : offL (shpS s) dir nm = (offL s dir nm).map shpN := by
  unfold offL
  rw [dirN_shp, ← setL_shp]; rfl
theorem offS_shp (s : St) (dir : Int) (nm : ByteArray) (ino : Int) : offS (shpS s) dir nm ino = shpS (offS s dir nm ino) := by
  unfold offS
  rw [offL_shp, getL_shp]
  have e : ((getL (offL s dir nm) ino).map shpN).getD node0 = shpN ((getL (offL s dir nm) ino).getD node0) := by
    cases getL (offL s dir nm) ino <;> rfl
  rw [e, show (shpN ((getL (offL s dir nm) ino).getD node0)).kind = ((getL (offL s dir nm) ino).getD node0).kind from rfl]
  split
  · rw [delL_shp]; rfl
  · rw [show ({ shpN ((getL (offL s dir nm) ino).getD node0) with links := (shpN ((getL (offL s dir nm) ino).getD node0)).links - 1 } : Node) = shpN { (getL (offL s dir nm) ino).getD node0 with links := ((getL (offL s dir nm) ino).getD node0).links - 1 } from rfl, setL_shp]
    rfl
theorem removeS_shp (s : St) (e : Effect) : removeS (shpS s) e = (removeS s e).map shpS := by
  unfold removeS
  rw [mayS_shp, offS_shp]
  by_cases h : mayS s e.dir e.name e.ino (if e.kind = 4 then 2 else 1) = true
  · rw [if_pos h, if_pos h]; rfl
  · rw [if_neg h, if_neg h]; rfl
theorem withinN_shp (s : St) (dir : Int) : ∀ (k : Nat) (ino : Int), withinN (shpS s) dir k ino = withinN s dir k ino
  | 0, _ => rfl
  | k + 1, ino => by
    rw [withinN, withinN, isDir_shp, dirN_shp, show (shpN (dirN s ino)).up = (dirN s ino).up from rfl, withinN_shp s dir k]
theorem withinS_shp (s : St) (ino dir : Int) : withinS (shpS s) ino dir = withinS s ino dir := by
  unfold withinS
  rw [withinN_shp, show (shpS s).L.length = s.L.length from List.length_map _]
theorem moveS_shp (s : St) (e : Effect) (kind : Int) : moveS (shpS s) e kind = shpS (moveS s e kind) := by
  unfold moveS
  simp only
  have e1 : setL (shpS s).L { dirN (shpS s) e.dir with names := (dropE (dirN (shpS s) e.dir).names e.name).1 } = (setL s.L { dirN s e.dir with names := (dropE (dirN s e.dir).names e.name).1 }).map shpN := by
    rw [dirN_shp, ← setL_shp]; rfl
  rw [e1]
  generalize setL s.L { dirN s e.dir with names := (dropE (dirN s e.dir).names e.name).1 } = L2
  have e2 : dirN ⟨L2.map shpN, (shpS s).last⟩ e.to = shpN (dirN ⟨L2, s.last⟩ e.to) := dirN_shp ⟨L2, s.last⟩ e.to
  rw [e2]
  have e3 : setL (L2.map shpN) { shpN (dirN ⟨L2, s.last⟩ e.to) with names := (putE (shpN (dirN ⟨L2, s.last⟩ e.to)).names e.other e.ino).1 } = (setL L2 { dirN ⟨L2, s.last⟩ e.to with names := (putE (dirN ⟨L2, s.last⟩ e.to).names e.other e.ino).1 }).map shpN := by
    rw [← setL_shp]; rfl
  rw [e3]
  generalize setL L2 { dirN ⟨L2, s.last⟩ e.to with names := (putE (dirN ⟨L2, s.last⟩ e.to).names e.other e.ino).1 } = L3
  have e4 : dirN ⟨L3.map shpN, (shpS s).last⟩ e.ino = shpN (dirN ⟨L3, s.last⟩ e.ino) := dirN_shp ⟨L3, s.last⟩ e.ino
  rw [e4]
  split
  · have e5 : setL (L3.map shpN) { shpN (dirN ⟨L3, s.last⟩ e.ino) with up := e.to } = (setL L3 { dirN ⟨L3, s.last⟩ e.ino with up := e.to }).map shpN := by rw [← setL_shp]; rfl
    rw [e5]; rfl
  · rfl
theorem renameS_shp (s : St) (e : Effect) : renameS (shpS s) e = (renameS s e).map shpS := by
  unfold renameS
  simp only
  rw [dirN_shp, dirN_shp, dirN_shp, isDir_shp, isDir_shp, some_shp, withinS_shp, mayS_shp, offS_shp, moveS_shp, moveS_shp]
  rw [show (shpN (dirN s e.dir)).names = (dirN s e.dir).names from rfl, show (shpN (dirN s e.to)).names = (dirN s e.to).names from rfl, show (shpN (dirN s e.ino)).kind = (dirN s e.ino).kind from rfl]
  split
  · split
    · split <;> rfl
    · rfl
  · rfl
theorem filter_sg (l : List Int) : (l.map sg).filter (fun x => !decide (x = 0)) = (l.filter (fun x => !decide (x = 0))).map sg := by
  rw [List.filter_map]
  congr 1
  apply List.filter_congr
  intro x _
  simp only [Function.comp, sg_zero]
theorem resizeN_shp (n : Node) (size : Int) : resizeN (shpN n) size = (shpN (resizeN n size).1, (resizeN n size).2.map sg) := by
  unfold resizeN
  split
  · rfl
  · simp only [show (shpN n).pages = n.pages.map sg from rfl, List.length_map]
    split
    · rw [← List.map_take, ← List.map_drop, filter_sg]; rfl
    · have e : n.pages.map sg ++ List.replicate ((needI size).toNat - n.pages.length) 0 = (n.pages ++ List.replicate ((needI size).toNat - n.pages.length) 0).map sg := by
        rw [List.map_append, List.map_replicate]; rfl
      rw [e]; rfl
theorem putN_shp (n : Node) (i : Nat) (ref size : Int) : putN (shpN n) i (sg ref) size = (shpN (putN n i ref size).1, sg (putN n i ref size).2) := by
  unfold putN
  simp only [resizeN_shp]
  have h1 : (shpN (resizeN n size).1).pages = (resizeN n size).1.pages.map sg := rfl
  rw [h1, ← List.map_set, List.getElem?_map]
  refine Prod.ext rfl ?_
  cases (resizeN n size).1.pages[i]? <;> rfl
theorem truncS_shp (s : St) (e : Effect) : truncS (shpS s) e = (truncS s e).map (fun r => (shpS r.1, r.2.map sg)) := by
  unfold truncS
  rw [isFile_shp, dirN_shp, resizeN_shp]
  split
  · rw [set_shp]; rfl
  · rfl
theorem writeS_shp (s : St) (e : Effect) (ref : Int) : writeS (shpS s) e (sg ref) = (writeS s e ref).map (fun r => (shpS r.1, r.2.map sg)) := by
  unfold writeS
  rw [isFile_shp, dirN_shp, putN_shp, show (shpN (dirN s e.ino)).size = (dirN s e.ino).size from rfl]
  split
  · rw [set_shp]
    simp only [Option.map_some, Option.some.injEq, sg_zero]
    refine Prod.ext rfl ?_
    show (if _ then _ else _) = List.map sg (if _ then _ else _)
    split <;> rfl
  · rfl
theorem dropS_shp (s : St) (e : Effect) : dropS (shpS s) e = (dropS s e).map (fun r => (shpS r.1, r.2.map sg)) := by
  unfold dropS
  rw [isFile_shp, dirN_shp, show (shpN (dirN s e.ino)).links = (dirN s e.ino).links from rfl, show (shpN (dirN s e.ino)).pages = (dirN s e.ino).pages.map sg from rfl, filter_sg]
  split
  · rw [show (shpS s).L = s.L.map shpN from rfl, delL_shp]; rfl
  · rfl
theorem doesS_shp (s : St) (e : Effect) (ref : Int) : doesS (shpS s) e (sg ref) = (doesS s e ref).map (fun r => (shpS r.1, r.2.map sg)) := by
  unfold doesS
  rw [makeS_shp, linkS_shp, removeS_shp, renameS_shp, truncS_shp, writeS_shp, dropS_shp]
  split
  · cases makeS s e <;> rfl
  split
  · cases linkS s e <;> rfl
  split
  · cases removeS s e <;> rfl
  split
  · cases renameS s e <;> rfl
  repeat' split
  all_goals rfl
theorem applyS_shp (s : St) (e : Effect) (ref : Int) : applyS (shpS s) e (sg ref) = (shpS (applyS s e ref).1, (applyS s e ref).2.1.map sg, (applyS s e ref).2.2) := by
  unfold applyS
  rw [doesS_shp]
  split
  · cases doesS s e ref <;> rfl
  · rfl
theorem wordsS_shp (s : St) : wordsS (shpS s) = wordsS s := by
  unfold wordsS sumF
  rw [show (shpS s).L = s.L.map shpN from rfl, List.map_map]
  congr 3
  funext n
  show wordsN (shpN n) = wordsN n
  unfold wordsN
  rw [show (shpN n).pages = n.pages.map sg from rfl, List.length_map]; rfl
theorem refsS_shp (s : St) : (refsS (shpS s)).length = (refsS s).length := by
  unfold refsS
  rw [show (shpS s).L = s.L.map shpN from rfl, List.flatMap_map, List.length_flatMap, List.length_flatMap]
  congr 2
  funext n
  show (refsN (shpN n)).length = (refsN n).length
  unfold refsN
  rw [show (shpN n).pages = n.pages.map sg from rfl, filter_sg, List.length_map]
theorem fitsS_shp (g : Geom) (s : St) : fitsS g (shpS s) = fitsS g s := by
  unfold fitsS leftW leftP
  rw [wordsS_shp, refsS_shp]
/-- What a trial ends with, whatever the references are. -/
def tryB (g : Geom) : St → List Effect → Bool → Int
  | _, [], full => if full = true then 28 else 0
  | s, e :: l, full => if (applyS s e (if e.kind = 7 then 1 else 0)).2.2 = 0 then tryB g (applyS s e (if e.kind = 7 then 1 else 0)).1 l (full || !fitsS g (applyS s e (if e.kind = 7 then 1 else 0)).1) else 93
theorem sg_ref {p : Prop} [Decidable p] {n : Int} (h : n ≠ 0) : sg (if p then n else 0) = if p then 1 else 0 := by
  split
  · unfold sg; rw [if_neg h]
  · rfl
end Go.Proofs.YtdfjfagljngciaaGreat
