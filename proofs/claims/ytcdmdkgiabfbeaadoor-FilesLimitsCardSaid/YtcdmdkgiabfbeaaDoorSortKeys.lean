/-
  The names of a store's files, sorted.
-/
import Derived.Test.YtcdmdkgiabfbeaaDoorIter
import Derived.Test.YtcdmdkgiabfbeaaDoorAbs
namespace Go.Proofs.YtcdmdkgiabfbeaaDoor
open Go.RowKit Go.Maps Go.Sort Go.Shelf
open Go.WideElems (Fit rd rg rg_of rd_mk)

def R0 : Value → Option (DataW Unit × List MemPlace) := fun _ => some (.nil, [])
def namesB (L : List Ent) : List (List UInt8) := (L.map fun e => e.name.data.toList).mergeSort leB

theorem keyS (s : ByteArray) (h : s.size ≤ maxLen) : keyOf Tryd.prog 9 (.string s) = some (.string s.data.toList) := Go.WideMaps.keyOf_string_mk Tryd.underlying9 h

theorem nameB_size {s : ByteArray} (h : isNameB s = true) : s.size ≤ 255 := by
  unfold isNameB at h
  simp only [Bool.and_eq_true, decide_eq_true_eq] at h
  omega

theorem rdE {e : Ent} (h : isNameB e.name = true) : rd Tryd.prog 9 R0 e.entry = some (.string e.name.data.toList, .nil) := by
  show rd Tryd.prog 9 R0 ⟨.string e.name, .pointer (some ⟨e.fb, 0, none⟩), e.born⟩ = _
  rw [rd_mk (keyS e.name (by have := nameB_size h; unfold maxLen; omega)) (show R0 (.pointer (some ⟨e.fb, 0, none⟩)) = some (.nil, []) from rfl)]

noncomputable def datumOf (L : List Ent) : DataW Unit := .map (((L.map Ent.entry).toArray.toList.map (rg Tryd.prog 9 R0)).foldr DataW.insert [])

theorem ownsMap_of {m : Mem} {sb : Nat} {g : G} {w : World} (hm : Has w m) (r : SRep m sb g) : w.ownsMap Tryd.prog 9 R0 g.mb 100 (datumOf g.L) := by
  refine ⟨(g.L.map Ent.entry).toArray, g.clock, hm _ _ r.map, ⟨?_, ⟨fun x hx => ?_, ?_, ?_⟩, fun x hx => ?_⟩, ?_, rfl⟩
  · have := r.llen; simp [maxLen]; omega
  · obtain ⟨e, he, rfl⟩ := List.mem_map.1 (by simpa using hx : x ∈ g.L.map Ent.entry)
    exact r.bornC e he
  · have h := r.bornN
    simp only [List.map_map]
    exact h
  · have h := r.names
    simp only [List.map_map]
    have h2 : (g.L.map ((·.key) ∘ Ent.entry)) = (g.L.map (·.name)).map Value.string := by rw [List.map_map]; rfl
    rw [h2]
    exact List.pairwise_map.2 (h.imp fun hne e => hne (Value.string.inj e))
  · obtain ⟨e, he, rfl⟩ := List.mem_map.1 (by simpa using hx : x ∈ g.L.map Ent.entry)
    exact ⟨_, rdE (r.nm e he)⟩
  · have := r.llen; simp; omega

theorem strKeys_of (L : List Ent) (hn : ∀ e ∈ L, isNameB e.name = true) : (strKeys (datumOf L)).Perm (L.map fun e => e.name.data.toList) := by
  show (((((L.map Ent.entry).toArray.toList.map (rg Tryd.prog 9 R0)).foldr DataW.insert [])).map fun p => strOf p.1).Perm _
  have h1 := (Go.WideShapes.sorted_perm ((L.map Ent.entry).toArray.toList.map (rg Tryd.prog 9 R0))).map (fun p : Lit × DataW Unit => strOf p.1)
  refine h1.trans (List.Perm.of_eq ?_)
  simp only [List.map_map]
  refine List.map_congr_left fun e he => ?_
  simp only [Function.comp, rg_of (rdE (hn e he))]
  rfl

theorem size_datum (L : List Ent) : Maps.size (datumOf L) = L.length := by
  show (((L.map Ent.entry).toArray.toList.map (rg Tryd.prog 9 R0)).foldr DataW.insert []).length = _
  rw [length_sorted]; simp

/-- 'slices.Sorted(maps.Keys(s.files))', its second call. -/
theorem sorted_any {m : Mem} {sb : Nat} {g : G} (w : World) (hm : Has w m) (r : SRep m sb g) :
    Calls Tryd.prog 49 #[.func (.func 60) #[] #[.pointer (some ⟨w.heap.size, 0, none⟩)]] (w.alloc (.cells #[.map (some g.mb)] 51))
      (Post w m fun v m' => Row m' v 9 1 (namesB g.L).length ((namesB g.L).map encStr)) := by
  have hl := r.llen
  refine (sorted_call g.mb 100 (datumOf g.L) R0 w (ownsMap_of hm r) (by rw [size_datum]; unfold maxLen; omega) (by rw [size_datum]; omega)).mono ?_
  rintro e w' ⟨v, ss, rfl, hp, hrow, _, hb⟩
  have hs : ss.mergeSort leB = namesB g.L := mergeSort_of_perm (hp.trans (strKeys_of g.L r.nm))
  have hlen : ss.length = (namesB g.L).length := by rw [← hs]; exact (List.length_mergeSort ss).symm
  have hrow' : w'.ownsRow (w.alloc (.cells #[.map (some g.mb)] 51)).heap.size 9 1 v (namesB g.L).length ((namesB g.L).map encStr) := by
    rw [← hs, List.length_mergeSort]; exact hrow
  have h0 : Has w' m := fun b o hbo => by
    have h1 := hm b o hbo
    have hlt : b < w.heap.size := (Array.getElem?_eq_some_iff.1 h1).1
    rw [hb.block b (by simp; omega), Below.heap_alloc _ _ b hlt]
    exact h1
  have n0 : Env w w' := ⟨hb.os, hb.tape, hb.output⟩
  obtain ⟨h1, ⟨rfl, h2⟩ | ⟨gb, cap, cur, rfl, hge, hg, hnc, hcm, hcs, htk⟩⟩ := hrow'
  · exact Post.mk m (Mem.le_refl _) h0 n0 ⟨h1, .inl ⟨rfl, h2⟩⟩
  · have hfr : m gb = none := hm.fresh (by simp at hge; omega)
    refine Post.mk (m.set gb (.cells cur 9 (0, 0))) (Mem.le_set _ _ hfr) (fun b o hbo => ?_) n0 ⟨h1, .inr ⟨gb, cap, cur, (0, 0), rfl, Mem.set_same _ _ _, Thaw.zero _, hnc, hcm, by omega, htk⟩⟩
    by_cases e : b = gb
    · subst e
      rw [Mem.set_same] at hbo
      rw [← Option.some.inj hbo]; exact hg
    · rw [Mem.set_ne _ _ e] at hbo
      exact h0 b o hbo
end Go.Proofs.YtcdmdkgiabfbeaaDoor
