/-
  slices.Sorted(maps.Keys(m)): the library's contracts, laid at this program by the kit's shelf (lay-iter.mjs, lay-plain.mjs; printed by iter_gen.py).
-/
import Derived.Test.YtcdmdkgiabfbeaaGreatDoorK06
import Derived.Test.YtcdmdkgiabfbeaaGreatDoorK04
import Derived.Test.YtcdmdkgiabfbeaaGreatDoorK02
import Derived.Shelf.SlIter.Nil
import Derived.Shelf.SortM.Plain
import Derived.Shelf.SortM.SortNone
import Derived.Ground.GgzProg
import Derived.Ground.SlgmProg
import Derived.Test.YtcdmdkgiabfbeaaGreatDoorProg
namespace Go.Proofs.YtcdmdkgiabfbeaaGreatDoor
open Go.RowKit Go.Maps Go.Sort Go.Shelf
def itKeys_ren : Go.Shelf.Ren := ⟨fun | 7 => 50 | 10 => 87 | n => n, fun | 23 => 68 | 26 => 9 | 3 => 67 | 28 => 94 | 0 => 0 | 27 => 93 | 33 => 98 | 4 => 4 | n => n, fun | n => n⟩
theorem itKeys : Go.Proofs.SlLaysZ.n7 Tryz.prog itKeys_ren := {
  mixed := by kernel_rfl
  f7 := ⟨Tryz.f50.name, by decide, Tryz.func50.trans (congrArg some (by kernel_rfl))⟩
  f10 := ⟨Tryz.f87.name, by decide, Tryz.func87.trans (congrArg some (by kernel_rfl))⟩
  t0 := Tryz.underlying0
  a0 := Tryz.isAgg0
  z0 := Tryz.sizeOf0
  v0 := Tryz.zeroValue0
  t4 := Tryz.underlying4
  a4 := Tryz.isAgg4
  z4 := Tryz.sizeOf4
  v4 := Tryz.zeroValue4
  t23 := Tryz.underlying68
  a23 := Tryz.isAgg68
  z23 := Tryz.sizeOf68
  v23 := Tryz.zeroValue68
  t26 := Tryz.underlying9
  a26 := Tryz.isAgg9
  z26 := Tryz.sizeOf9
  v26 := Tryz.zeroValue9
  t27 := Tryz.underlying93
  a27 := Tryz.isAgg93
  z27 := Tryz.sizeOf93
  v27 := Tryz.zeroValue93
  t28 := Tryz.underlying94
  a28 := Tryz.isAgg94
  z28 := Tryz.sizeOf94
  v28 := Tryz.zeroValue94
  t33 := Tryz.underlying98
  a33 := Tryz.isAgg98
  z33 := Tryz.sizeOf98
  v33 := Tryz.zeroValue98 }
def itSorted_ren : Go.Shelf.Ren := ⟨fun | 6 => 49 | 8 => 85 | 9 => 86 | 11 => 107 | 13 => 109 | 12 => 108 | 23 => 123 | 24 => 124 | 14 => 114 | 15 => 115 | 16 => 116 | 17 => 117 | 18 => 118 | 19 => 119 | 20 => 120 | 21 => 121 | 22 => 122 | 25 => 125 | 26 => 126 | 27 => 127 | 28 => 128 | 29 => 129 | 30 => 130 | 31 => 131 | n => n, fun | 26 => 9 | 28 => 94 | 24 => 91 | 0 => 0 | 3 => 3 | 37 => 133 | 48 => 157 | 50 => 159 | 4 => 4 | 40 => 149 | 39 => 148 | 45 => 154 | 5 => 5 | 9 => 9 | 51 => 160 | 55 => 164 | 57 => 166 | 58 => 29 | 33 => 98 | n => n, fun | n => n⟩
theorem itSorted : Go.Proofs.SlLaysZ.n6 Tryz.prog itSorted_ren := {
  mixed := by kernel_rfl
  f6 := ⟨Tryz.f49.name, by decide, Tryz.func49.trans (congrArg some (by kernel_rfl))⟩
  f8 := ⟨Tryz.f85.name, by decide, Tryz.func85.trans (congrArg some (by kernel_rfl))⟩
  f11 := ⟨Tryz.f107.name, by decide, Tryz.func107.trans (congrArg some (by kernel_rfl))⟩
  t0 := Tryz.underlying0
  a0 := Tryz.isAgg0
  z0 := Tryz.sizeOf0
  v0 := Tryz.zeroValue0
  t24 := Tryz.underlying91
  a24 := Tryz.isAgg91
  z24 := Tryz.sizeOf91
  v24 := Tryz.zeroValue91
  t26 := Tryz.underlying9
  a26 := Tryz.isAgg9
  z26 := Tryz.sizeOf9
  v26 := Tryz.zeroValue9
  t28 := Tryz.underlying94
  a28 := Tryz.isAgg94
  z28 := Tryz.sizeOf94
  v28 := Tryz.zeroValue94
  i26 := by kernel_rfl }
def itSort_ren : Go.Shelf.Ren := ⟨fun | 6 => 86 | 8 => 109 | 9 => 108 | 19 => 123 | 20 => 124 | 21 => 114 | 22 => 115 | 23 => 116 | 24 => 117 | 25 => 118 | 26 => 119 | 27 => 120 | 28 => 121 | 29 => 122 | 36 => 125 | 31 => 126 | 32 => 127 | 37 => 128 | 38 => 129 | 39 => 130 | 41 => 131 | n => n, fun | 27 => 91 | 29 => 9 | 3 => 3 | 32 => 133 | 26 => 91 | 0 => 0 | 44 => 157 | 46 => 159 | 4 => 4 | 36 => 149 | 35 => 148 | 41 => 154 | 5 => 5 | 9 => 9 | 53 => 160 | 57 => 164 | 63 => 166 | 64 => 29 | n => n, fun | n => n⟩
theorem itSort : Go.Proofs.SlLaysM.n6 Tryz.prog itSort_ren := {
  mixed := by kernel_rfl
  f6 := ⟨Tryz.f86.name, by decide, Tryz.func86.trans (congrArg some (by kernel_rfl))⟩
  f8 := Tryz.func109.trans (congrArg some (by kernel_rfl))
  f9 := ⟨Tryz.f108.name, by decide, Tryz.func108.trans (congrArg some (by kernel_rfl))⟩
  f19 := Tryz.func123.trans (congrArg some (by kernel_rfl))
  f20 := Tryz.func124.trans (congrArg some (by kernel_rfl))
  f21 := ⟨Tryz.f114.name, by decide, Tryz.func114.trans (congrArg some (by kernel_rfl))⟩
  f22 := ⟨Tryz.f115.name, by decide, Tryz.func115.trans (congrArg some (by kernel_rfl))⟩
  f23 := ⟨Tryz.f116.name, by decide, Tryz.func116.trans (congrArg some (by kernel_rfl))⟩
  f24 := ⟨Tryz.f117.name, by decide, Tryz.func117.trans (congrArg some (by kernel_rfl))⟩
  f25 := ⟨Tryz.f118.name, by decide, Tryz.func118.trans (congrArg some (by kernel_rfl))⟩
  f26 := ⟨Tryz.f119.name, by decide, Tryz.func119.trans (congrArg some (by kernel_rfl))⟩
  f27 := ⟨Tryz.f120.name, by decide, Tryz.func120.trans (congrArg some (by kernel_rfl))⟩
  f28 := ⟨Tryz.f121.name, by decide, Tryz.func121.trans (congrArg some (by kernel_rfl))⟩
  f29 := ⟨Tryz.f122.name, by decide, Tryz.func122.trans (congrArg some (by kernel_rfl))⟩
  f31 := Tryz.func126.trans (congrArg some (by kernel_rfl))
  f32 := Tryz.func127.trans (congrArg some (by kernel_rfl))
  f36 := ⟨Tryz.f125.name, by decide, Tryz.func125.trans (congrArg some (by kernel_rfl))⟩
  f37 := ⟨Tryz.f128.name, by decide, Tryz.func128.trans (congrArg some (by kernel_rfl))⟩
  f38 := ⟨Tryz.f129.name, by decide, Tryz.func129.trans (congrArg some (by kernel_rfl))⟩
  f39 := ⟨Tryz.f130.name, by decide, Tryz.func130.trans (congrArg some (by kernel_rfl))⟩
  f41 := ⟨Tryz.f131.name, by decide, Tryz.func131.trans (congrArg some (by kernel_rfl))⟩
  t0 := Tryz.underlying0
  a0 := Tryz.isAgg0
  z0 := Tryz.sizeOf0
  v0 := Tryz.zeroValue0
  t3 := Tryz.underlying3
  a3 := Tryz.isAgg3
  z3 := Tryz.sizeOf3
  v3 := Tryz.zeroValue3
  t4 := Tryz.underlying4
  a4 := Tryz.isAgg4
  z4 := Tryz.sizeOf4
  v4 := Tryz.zeroValue4
  t5 := Tryz.underlying5
  a5 := Tryz.isAgg5
  z5 := Tryz.sizeOf5
  v5 := Tryz.zeroValue5
  t9 := Tryz.underlying9
  a9 := Tryz.isAgg9
  z9 := Tryz.sizeOf9
  v9 := Tryz.zeroValue9
  t26 := Tryz.underlying91
  a26 := Tryz.isAgg91
  z26 := Tryz.sizeOf91
  v26 := Tryz.zeroValue91
  t27 := Tryz.underlying91
  a27 := Tryz.isAgg91
  z27 := Tryz.sizeOf91
  v27 := Tryz.zeroValue91
  t29 := Tryz.underlying9
  a29 := Tryz.isAgg9
  z29 := Tryz.sizeOf9
  v29 := Tryz.zeroValue9
  t32 := Tryz.underlying133
  a32 := Tryz.isAgg133
  z32 := Tryz.sizeOf133
  v32 := Tryz.zeroValue133
  t35 := Tryz.underlying148
  a35 := Tryz.isAgg148
  z35 := Tryz.sizeOf148
  v35 := Tryz.zeroValue148
  t36 := Tryz.underlying149
  a36 := Tryz.isAgg149
  z36 := Tryz.sizeOf149
  v36 := Tryz.zeroValue149
  t41 := Tryz.underlying154
  a41 := Tryz.isAgg154
  z41 := Tryz.sizeOf154
  v41 := Tryz.zeroValue154
  t44 := Tryz.underlying157
  a44 := Tryz.isAgg157
  z44 := Tryz.sizeOf157
  v44 := Tryz.zeroValue157
  t46 := Tryz.underlying159
  a46 := Tryz.isAgg159
  z46 := Tryz.sizeOf159
  v46 := Tryz.zeroValue159
  t53 := Tryz.underlying160
  a53 := Tryz.isAgg160
  z53 := Tryz.sizeOf160
  v53 := Tryz.zeroValue160
  t57 := Tryz.underlying164
  a57 := Tryz.isAgg164
  z57 := Tryz.sizeOf164
  v57 := Tryz.zeroValue164
  t63 := Tryz.underlying166
  a63 := Tryz.isAgg166
  z63 := Tryz.sizeOf166
  v63 := Tryz.zeroValue166
  t64 := Tryz.underlying29
  a64 := Tryz.isAgg29
  z64 := Tryz.sizeOf29
  v64 := Tryz.zeroValue29 }

theorem itSorts (m : Nat) : AnyZ.SortsIn Tryz.prog itSorted_ren Fence.wide m :=
  ⟨fun blk off cap ss W hH hblk hsz => callsIn_wide.2 (AnyM.slices_Sort_string itSort blk off cap ss W hH hblk hsz),
   fun p cap W => callsIn_wide.2 (AnyM.slices_Sort_string_none itSort p cap W)⟩

theorem keys_call (mb : Option Nat) (W : World) : Calls Tryz.prog 50 #[.map mb] W fun e w' => e = .returned (.func (.func 87) #[] #[.pointer (some ⟨W.heap.size, 0, none⟩)]) ∧ w' = W.alloc (.cells #[.map mb] 68) :=
  callsIn_wide.1 (AnyZ.keys_in itKeys Fence.wide 5 trivial rfl mb W)

set_option maxHeartbeats 1000000 in
theorem sorted_call {H : Type} (b nn : Nat) (D0 : DataW H) (R : Value → Option (DataW H × List MemPlace)) (w : World) (hown : w.ownsMap Tryz.prog 9 R b nn D0) (hmax : Maps.size D0 ≤ maxLen) (hbytes : Maps.size D0 * 16 ≤ 140737488355328) :
    Calls Tryz.prog 49 #[.func (.func 87) #[] #[.pointer (some ⟨w.heap.size, 0, none⟩)]] (w.alloc (.cells #[.map (some b)] 68)) fun e w' => ∃ (v : Value) (ss : List (List UInt8)), e = .returned v ∧ ss.Perm (strKeys D0) ∧
      w'.ownsRow (w.alloc (.cells #[.map (some b)] 68)).heap.size 9 1 v ss.length ((ss.mergeSort (fun x y => decide (x ≤ y))).map encStr) ∧ (v = .slice none 0 0 ↔ ss = []) ∧ Below (w.alloc (.cells #[.map (some b)] 68)).heap.size (w.alloc (.cells #[.map (some b)] 68)) w' := by
  have hbl := hown.lt
  have hseq : SeqGives Fence.wide 2 Tryz.prog 87 #[.pointer (some ⟨w.heap.size, 0, none⟩)] encStr (fun ss => ss.Perm (strKeys D0)) (Maps.size D0) (w.alloc (.cells #[.map (some b)] 68)) :=
    AnyZ.keys_gives (ρ := itKeys_ren) { itKeys with } Fence.wide _ trivial rfl (by omega) w.heap.size b nn D0 _ (by simp) (by simp) (by
      obtain ⟨es, clock, hb, Ft, hs, hD⟩ := hown
      exact ⟨es, clock, (Below.heap_alloc _ _ b hbl).trans hb, Ft, hs, hD⟩)
  exact callsIn_wide.1 (AnyZ.sorted_in itSorted Fence.wide 5 trivial trivial trivial trivial rfl (by omega) (itSorts _) (enters_of Tryz.func86 (by kernel_rfl) rfl) 87 #[.pointer (some ⟨w.heap.size, 0, none⟩)] trivial (enters_of Tryz.func87 (by kernel_rfl) rfl) _ _ hmax hbytes _ hseq)
end Go.Proofs.YtcdmdkgiabfbeaaGreatDoor

/-
  The names of a store's files, sorted.
-/
namespace Go.Proofs.YtcdmdkgiabfbeaaGreatDoor
open Go.RowKit Go.Maps Go.Sort Go.Shelf
open Go.WideElems (Fit rd rg rg_of rd_mk)

def R0 : Value → Option (DataW Unit × List MemPlace) := fun _ => some (.nil, [])
def namesB (L : List Ent) : List (List UInt8) := (L.map fun e => e.name.data.toList).mergeSort leB

theorem keyS (s : ByteArray) (h : s.size ≤ maxLen) : keyOf Tryz.prog 9 (.string s) = some (.string s.data.toList) := Go.WideMaps.keyOf_string_mk Tryz.underlying9 h

theorem nameB_size {s : ByteArray} (h : isNameB s = true) : s.size ≤ 255 := by
  unfold isNameB at h
  simp only [Bool.and_eq_true, decide_eq_true_eq] at h
  omega

theorem rdE {e : Ent} (h : isNameB e.name = true) : rd Tryz.prog 9 R0 e.entry = some (.string e.name.data.toList, .nil) := by
  show rd Tryz.prog 9 R0 ⟨.string e.name, .pointer (some ⟨e.fb, 0, none⟩), e.born⟩ = _
  rw [rd_mk (keyS e.name (by have := nameB_size h; unfold maxLen; omega)) (show R0 (.pointer (some ⟨e.fb, 0, none⟩)) = some (.nil, []) from rfl)]

noncomputable def datumOf (L : List Ent) : DataW Unit := .map (((L.map Ent.entry).toArray.toList.map (rg Tryz.prog 9 R0)).foldr DataW.insert [])

theorem ownsMap_of {m : Mem} {sb : Nat} {g : G} {w : World} (hm : Has w m) (r : SRep m sb g) : w.ownsMap Tryz.prog 9 R0 g.mb 100 (datumOf g.L) := by
  refine ⟨(g.L.map Ent.entry).toArray, g.clock, hm _ _ r.map, ⟨?_, ⟨fun x hx => ?_, ?_, ?_⟩, fun x hx => ?_⟩, ?_, rfl⟩
  · have := r.llen; simp [maxLen]; omega
  · obtain ⟨e, he, rfl⟩ := List.mem_map.1 (by simpa using hx : x ∈ g.L.map Ent.entry)
    exact r.bornC e he
  · have h := r.bornN
    simp only [List.map_map]
    exact h
  · have h := r.names
    simp only [List.map_map]
    have h2 : (g.L.map ((·.key) ∘ Ent.entry)) = (g.L.map (·.name)).map Value.string := by rw [List.map_map]; rfl
    rw [h2]
    exact List.pairwise_map.2 (h.imp fun hne e => hne (Value.string.inj e))
  · obtain ⟨e, he, rfl⟩ := List.mem_map.1 (by simpa using hx : x ∈ g.L.map Ent.entry)
    exact ⟨_, rdE (r.nm e he)⟩
  · have := r.llen; simp; omega

theorem strKeys_of (L : List Ent) (hn : ∀ e ∈ L, isNameB e.name = true) : (strKeys (datumOf L)).Perm (L.map fun e => e.name.data.toList) := by
  show (((((L.map Ent.entry).toArray.toList.map (rg Tryz.prog 9 R0)).foldr DataW.insert [])).map fun p => strOf p.1).Perm _
  have h1 := (Go.WideShapes.sorted_perm ((L.map Ent.entry).toArray.toList.map (rg Tryz.prog 9 R0))).map (fun p : Lit × DataW Unit => strOf p.1)
  refine h1.trans (List.Perm.of_eq ?_)
  simp only [List.map_map]
  refine List.map_congr_left fun e he => ?_
  simp only [Function.comp, rg_of (rdE (hn e he))]
  rfl

theorem size_datum (L : List Ent) : Maps.size (datumOf L) = L.length := by
  show (((L.map Ent.entry).toArray.toList.map (rg Tryz.prog 9 R0)).foldr DataW.insert []).length = _
  rw [length_sorted]; simp

/-- 'slices.Sorted(maps.Keys(s.files))', its second call. -/
theorem sorted_any {m : Mem} {sb : Nat} {g : G} (w : World) (hm : Has w m) (r : SRep m sb g) :
    Calls Tryz.prog 49 #[.func (.func 87) #[] #[.pointer (some ⟨w.heap.size, 0, none⟩)]] (w.alloc (.cells #[.map (some g.mb)] 68))
      (Post w m fun v m' => Row m' v 9 1 (namesB g.L).length ((namesB g.L).map encStr)) := by
  have hl := r.llen
  refine (sorted_call g.mb 100 (datumOf g.L) R0 w (ownsMap_of hm r) (by rw [size_datum]; unfold maxLen; omega) (by rw [size_datum]; omega)).mono ?_
  rintro e w' ⟨v, ss, rfl, hp, hrow, _, hb⟩
  have hs : ss.mergeSort leB = namesB g.L := mergeSort_of_perm (hp.trans (strKeys_of g.L r.nm))
  have hlen : ss.length = (namesB g.L).length := by rw [← hs]; exact (List.length_mergeSort ss).symm
  have hrow' : w'.ownsRow (w.alloc (.cells #[.map (some g.mb)] 68)).heap.size 9 1 v (namesB g.L).length ((namesB g.L).map encStr) := by
    rw [← hs, List.length_mergeSort]; exact hrow
  have h0 : Has w' m := fun b o hbo => by
    have h1 := hm b o hbo
    have hlt : b < w.heap.size := (Array.getElem?_eq_some_iff.1 h1).1
    rw [hb.block b (by simp; omega), Below.heap_alloc _ _ b hlt]
    exact h1
  have n0 : Env w w' := ⟨hb.os, hb.tape, hb.output⟩
  obtain ⟨h1, ⟨rfl, h2⟩ | ⟨gb, cap, cur, rfl, hge, hg, hnc, hcm, hcs, htk⟩⟩ := hrow'
  · exact Post.mk m (Mem.le_refl _) h0 n0 ⟨h1, .inl ⟨rfl, h2⟩⟩
  · have hfr : m gb = none := hm.fresh (by simp at hge; omega)
    refine Post.mk (m.set gb (.cells cur 9 (0, 0))) (Mem.le_set _ _ hfr) (fun b o hbo => ?_) n0 ⟨h1, .inr ⟨gb, cap, cur, (0, 0), rfl, Mem.set_same _ _ _, Thaw.zero _, hnc, hcm, by omega, htk⟩⟩
    by_cases e : b = gb
    · subst e
      rw [Mem.set_same] at hbo
      rw [← Option.some.inj hbo]; exact hg
    · rw [Mem.set_ne _ _ e] at hbo
      exact h0 b o hbo
end Go.Proofs.YtcdmdkgiabfbeaaGreatDoor

/-
  slices.Clone of fails.
-/
namespace Go.Proofs.YtcdmdkgiabfbeaaGreatDoor
open Go.RowKit

/-- A window of elements, somewhere in a block: n of them, their cells xs. -/
def WindK (m : Mem) (v : Value) (n : Nat) (xs : List Value) : Prop :=
  (v = .slice none 0 0 ∧ n = 0) ∨ ∃ A cap, v = .slice (some A) n cap ∧ (0 < n → ∃ g o, A = ⟨g, o, none⟩ ∧ Cells m g o xs)
theorem WindK.le {m m' : Mem} {v : Value} {n : Nat} {xs : List Value} (h : WindK m v n xs) (l : m.le m') : WindK m' v n xs := by
  rcases h with h | ⟨A, cap, h1, h3⟩
  · exact .inl h
  · refine .inr ⟨A, cap, h1, fun hp => ?_⟩
    obtain ⟨g, o, h4, h5⟩ := h3 hp
    exact ⟨g, o, h4, h5.le l⟩
theorem WindK.at {m : Mem} {n g o cap : Nat} {xs : List Value} (h : Cells m g o xs) : WindK m (.slice (some ⟨g, o, none⟩) n cap) n xs := .inr ⟨_, _, rfl, fun _ => ⟨g, o, rfl, h⟩⟩
theorem WindK.cells {m : Mem} {v : Value} {n : Nat} {xs : List Value} (h : WindK m v n xs) (hp : 0 < n) : ∃ g o cap, v = .slice (some ⟨g, o, none⟩) n cap ∧ Cells m g o xs := by
  rcases h with ⟨_, h⟩ | ⟨A, cap, h1, h3⟩
  · omega
  · obtain ⟨g, o, rfl, h5⟩ := h3 hp
    exact ⟨g, o, cap, h1, h5⟩

theorem nilNilF (w : World) : (binOp .eql 48 (.slice none 0 0) (.slice none 0 0)).run Tryz.prog w = .ok (.bool true) w := by kernel_rfl
theorem nilF (a : Addr) (n c : Nat) (w : World) : (binOp .eql 48 (.slice (some a) n c) (.slice none 0 0)).run Tryz.prog w = .ok (.bool false) w := by kernel_rfl
theorem infoF : (Tryz.prog.info? 47).map (fun i => (i.zero, i.size, i.bytes)) = some (some (.agg #[.int .i64 0, .int .i64 0, .int .i64 0]), 3, 24) := by kernel_rfl

theorem failCells_length (l : List Fail3) : (l.flatMap failCells).length = l.length * 3 := by
  induction l with
  | nil => rfl
  | cons f l ih => rw [List.flatMap_cons, List.length_append, ih, List.length_cons]; simp [failCells]; omega

set_option maxHeartbeats 1000000 in
set_option maxRecDepth 100000 in
theorem cloneF_any (y : Value) (l : List Fail3) (w : World) (m : Mem) (hm : Has w m) (hy : WindK m y l.length (l.flatMap failCells)) (hl : l.length ≤ 1000000) :
    Calls Tryz.prog 51 #[y] w (Post w m fun v m' => Fails m' v l ∧ ∀ b, v.ownBlock = some b → m b = none) := by
  have H := Lib.hid hm
  rcases hy with ⟨rfl, h⟩ | ⟨A, cap, rfl, hcells⟩
  · have hl0 : l = [] := List.eq_nil_of_length_eq_zero h
    subst hl0
    have hnn := nilNilF
    clear hm h
    go_enter Tryz.func51, Tryz.ntmps51
    go_wp2_with fail
    go_ret
    exact Post.mk _ (Mem.le_refl _) H.out (Env.refl _) ⟨Row.nil _ _ _, fun b hb => by cases hb⟩
  · have hnb := nilF A l.length cap
    have h1 := hm.alloc (.cells #[] 47)
    have k1 := Mem.le_set m (.cells #[] 47) (hm.fresh (Nat.le_refl _))
    obtain ⟨i0, hi, hz0, hz1, hz2⟩ := info_parts infoF
    have r0 : Row (m.set w.heap.size (.cells #[] 47)) (.slice (some ⟨w.heap.size, 0, none⟩) 0 0) 47 3 0 [] :=
      ⟨by simp, .inr ⟨w.heap.size, 0, #[], (0, 0), rfl, Mem.set_same _ _ _, Thaw.zero _, Nat.le_refl _, by decide, by simp, rfl⟩⟩
    obtain ⟨v', w2, m2, hrun, he2, hh2, hrow2, hgr2⟩ : ∃ v' w' m', (Builtin.append_ #[48, 48] 48 #[.slice (some ⟨w.heap.size, 0, none⟩) 0 0, .slice (some A) l.length cap]).run Tryz.prog (w.alloc (.cells #[] 47)) = .ok v' w' ∧
        Env (w.alloc (.cells #[] 47)) w' ∧ Has w' m' ∧ Row m' v' 47 3 (0 + l.length) ([] ++ l.flatMap failCells) ∧ Grows (m.set w.heap.size (.cells #[] 47)) m' (.slice (some ⟨w.heap.size, 0, none⟩) 0 0) v' := by
      rcases Nat.eq_zero_or_pos l.length with h0 | h0
      · have hl0 : l = [] := List.eq_nil_of_length_eq_zero h0
        subst hl0
        have hs : Src Tryz.prog i0.size 48 (.slice (some A) 0 cap) 0 [] (w.alloc (.cells #[] 47)) := Src.ofSlice _ Tryz.underlying48 A 0 cap [] (by simp) (by simp) (by simp)
        exact ⟨_, _, _, run_append_nothing _ 48 48 48 47 i0 Tryz.underlying48 hi (some ⟨w.heap.size, 0, none⟩) 0 0 (Nat.le_refl _) _ hs, Env.refl _, h1, by simpa using r0, .inl ⟨rfl, rfl⟩⟩
      · obtain ⟨g, o, rfl, hcl⟩ := hcells h0
        exact run_append_row (P := Tryz.prog) 48 48 47 i0 _ 3 24 Tryz.underlying48 hi hz0 hz1 hz2 rfl (by decide) h1 _ 0 [] r0 g o l.length cap (l.flatMap failCells) (failCells_length l) (hcl.le k1)
          (fun u hu => by
            obtain ⟨f, _, hf⟩ := List.mem_flatMap.1 hu
            simp only [failCells, List.mem_cons, List.not_mem_nil, or_false] at hf
            rcases hf with rfl | rfl | rfl <;> rfl) h0 (by omega) (by omega)
    have HFR := Lib.hid (hm.fresh (Nat.le_refl w.heap.size))
    have K1 := Lib.hid k1
    have HE2 := Lib.hid he2
    have HH2 := Lib.hid hh2
    have HROW := Lib.hid hrow2
    have HGR := Lib.hid hgr2
    clear hm hcells h1 k1 r0 hi hz0 hz1 hz2 he2 hh2 hrow2 hgr2
    go_enter Tryz.func51, Tryz.ntmps51
    go_wp2_with (at_builtin; refine wpList_b2 rfl .append Builtin.append_ (fun _ _ _ _ => rfl) _ _ _ _ rfl rfl rfl hrun ?_)
    go_ret
    have hle : m.le m2 := fun b ob hb => HGR.out.keep (K1.out _ _ hb) (fun e => by
      simp only [Value.ownBlock, Option.some.injEq] at e
      subst e; rw [HFR.out] at hb; cases hb)
    refine Post.mk m2 hle HH2.out (((Env.refl w).alloc _).trans HE2.out) ⟨by have := HROW.out; rw [Nat.zero_add, List.nil_append] at this; exact this, fun b hb => ?_⟩
    change v'.ownBlock = some b at hb
    cases hmb : m b with
    | none => rfl
    | some ob =>
      exfalso
      have h3 : b = w.heap.size ∨ (m.set w.heap.size (.cells #[] 47)) b = none := by
        rcases HGR.out with ⟨_, h2⟩ | ⟨gb, oo, h1, _, h3⟩
        · rw [h2] at hb; exact .inl (Option.some.inj hb).symm
        · rw [h1] at hb
          obtain rfl := Option.some.inj hb
          rcases h3 with h3 | h3
          · exact .inl (Option.some.inj h3).symm
          · exact .inr h3
      rcases h3 with h3 | h3
      · subst h3; rw [HFR.out] at hmb; cases hmb
      · rw [K1.out _ _ hmb] at h3; cases h3
end Go.Proofs.YtcdmdkgiabfbeaaGreatDoor
