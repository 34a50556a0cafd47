/-
  Both stores list the same files.
-/
import Derived.Test.YtcdmdkgiabfbeaaDoorRefFiles
namespace Go.Proofs.YtcdmdkgiabfbeaaDoor
open Go.RowKit

theorem filesOf_perm {L : List Ent} (hn : (L.map (·.name)).Nodup) : (filesOf L).Perm (L.map fun e => (e.name, ⟨e.bs.toArray⟩)) := by
  unfold filesOf namesB
  refine ((List.mergeSort_perm (L.map fun e => e.name.data.toList) leB).map _).trans (List.Perm.of_eq ?_)
  rw [List.map_map]
  refine List.map_congr_left fun e he => ?_
  have h1 : (⟨e.name.data.toList.toArray⟩ : ByteArray) = e.name := by cases e.name; simp
  simp only [Function.comp, h1, getE_of hn he, Option.map_some, Option.getD_some]

theorem filesOf_sorted (L : List Ent) : (filesOf L).Pairwise leF := by
  unfold filesOf namesB
  have tr : ∀ a b c : List UInt8, leB a b = true → leB b c = true → leB a c = true := fun a b c h1 h2 => by simp only [leB, decide_eq_true_eq] at *; exact List.le_trans h1 h2
  have to : ∀ a b : List UInt8, (leB a b || leB b a) = true := fun a b => by simp only [leB, Bool.or_eq_true, decide_eq_true_eq]; exact List.le_total a b
  refine List.pairwise_map.2 ((List.pairwise_mergeSort tr to (L.map fun e => e.name.data.toList)).imp fun {a b} h => ?_)
  show a.toArray.toList ≤ b.toArray.toList
  simpa [leB] using h

/-- The two lists are one. -/
theorem files_eq {L : List Ent} {F : List RF} {ol : List File2} (hn : (L.map (·.name)).Nodup) (hp : (L.map fun e => (e.name, (⟨e.bs.toArray⟩ : ByteArray))).Perm (ents F)) (ho : ol.Perm (ents F)) (hs : ol.Pairwise leF) : ol = filesOf L := by
  have hpp : ol.Perm (filesOf L) := ho.trans (hp.symm.trans (filesOf_perm hn).symm)
  refine List.Perm.eq_of_pairwise (le := leF) (fun a b ha hb h1 h2 => ?_) hs (filesOf_sorted L) hpp
  have he : a.1 = b.1 := by
    have h3 : a.1.data.toList = b.1.data.toList := List.le_antisymm h1 h2
    cases a with | mk a1 a2 => cases b with | mk b1 b2 =>
    cases a1; cases b1
    simp only [ByteArray.mk.injEq] at h3 ⊢
    exact Array.toList_inj.1 h3
  have ha' := (filesOf_perm hn).mem_iff.1 (hpp.mem_iff.1 ha)
  have hb' := (filesOf_perm hn).mem_iff.1 hb
  obtain ⟨d, hd, rfl⟩ := List.mem_map.1 ha'
  obtain ⟨e, hm, rfl⟩ := List.mem_map.1 hb'
  rw [nodup_inj hn hd hm he]
end Go.Proofs.YtcdmdkgiabfbeaaDoor
