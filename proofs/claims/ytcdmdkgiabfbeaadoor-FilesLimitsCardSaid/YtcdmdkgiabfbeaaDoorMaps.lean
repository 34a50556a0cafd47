/-
  The map of files by their names: what a look-up, an update, a delete and len come to, in memory that is known.
-/
import Derived.Test.YtcdmdkgiabfbeaaDoorBase
import Derived.MapKept
namespace Go.Proofs.YtcdmdkgiabfbeaaDoor
open Go.RowKit Go.MapKept

/-- A file of the map: its name, its block, the entry's stamp; the slice of its bytes, its bytes. -/
structure Ent where
  name : ByteArray
  fb : Nat
  born : Nat
  bv : Value
  bs : List UInt8

def Ent.entry (e : Ent) : MapEntry := { key := .string e.name, val := .pointer (some ⟨e.fb, 0, none⟩), born := e.born }
/-- The map's block. -/
def mapObj (L : List Ent) (clock : Nat) : Obj := .map (L.map Ent.entry).toArray clock

theorem bq (a b : ByteArray) : (a == b) = decide (a = b) := by
  by_cases h : a = b
  · rw [(bytes_beq a b).2 h]; simp [h]
  · cases e : a == b
    · simp [h]
    · exact absurd ((bytes_beq a b).1 e) h

def findAt (s : ByteArray) : List Ent → Nat → Option (Nat × Ent)
  | [], _ => none
  | e :: es, i => if s = e.name then some (i, e) else findAt s es (i + 1)

theorem findNow_ents (s : ByteArray) : ∀ (L : List Ent) (i : Nat),
    Instr.findNow .string (.string s) (L.map Ent.entry) i = some ((findAt s L i).map fun p => (p.1, .pointer (some ⟨p.2.fb, 0, none⟩))) := by
  intro L
  induction L with
  | nil => intro i; rfl
  | cons e es ih =>
    intro i
    simp only [List.map_cons, Instr.findNow, Ent.entry, Instr.sameNow, findAt, bq]
    by_cases h : s = e.name
    · simp [h]
    · simp only [h, decide_false, if_false]; exact ih (i + 1)

/-- The file of a name. -/
def getE (L : List Ent) (s : ByteArray) : Option Ent := L.find? fun e => decide (s = e.name)

theorem findAt_get (s : ByteArray) : ∀ (L : List Ent) (i : Nat), (findAt s L i).map (·.2) = getE L s := by
  intro L
  induction L with
  | nil => intro i; rfl
  | cons e es ih =>
    intro i
    simp only [findAt, getE, List.find?_cons]
    by_cases h : s = e.name
    · simp [h]
    · simp only [h, decide_false, if_false]; exact ih (i + 1)

theorem findAt_spec (s : ByteArray) : ∀ (L : List Ent) (i j : Nat) (e : Ent), findAt s L i = some (j, e) → i ≤ j ∧ L[j - i]? = some e ∧ e.name = s ∧ ∀ x ∈ L.take (j - i), x.name ≠ s := by
  intro L
  induction L with
  | nil => intro i j e h; cases h
  | cons d es ih =>
    intro i j e h
    simp only [findAt] at h
    by_cases hd : s = d.name
    · rw [if_pos hd] at h
      simp only [Option.some.injEq, Prod.mk.injEq] at h
      obtain ⟨rfl, rfl⟩ := h
      exact ⟨Nat.le_refl _, by simp, hd.symm, by simp⟩
    · rw [if_neg hd] at h
      obtain ⟨h1, h2, h3, h4⟩ := ih (i + 1) j e h
      refine ⟨by omega, ?_, h3, ?_⟩
      · rw [show j - i = (j - (i + 1)) + 1 from by omega]; simpa using h2
      · rw [show j - i = (j - (i + 1)) + 1 from by omega]
        intro x hx
        rcases List.mem_cons.1 (by simpa using hx) with rfl | hx
        · exact fun e => hd e.symm
        · exact h4 x hx

theorem findAt_none (s : ByteArray) : ∀ (L : List Ent) (i : Nat), findAt s L i = none ↔ ∀ x ∈ L, x.name ≠ s := by
  intro L
  induction L with
  | nil => intro i; simp [findAt]
  | cons d es ih =>
    intro i
    simp only [findAt]
    by_cases hd : s = d.name
    · rw [if_pos hd]; simp [hd]
    · rw [if_neg hd, ih]
      have : ¬ d.name = s := fun e => hd e.symm
      simp [this]

/-- What a look-up hands back. -/
def lookV (L : List Ent) (s : ByteArray) : Value := match getE L s with | some e => .pointer (some ⟨e.fb, 0, none⟩) | none => .pointer none

theorem mapList (L : List Ent) (clock : Nat) : mapObj L clock = .map (L.map Ent.entry).toArray clock := rfl

theorem zeroF (w : World) : (zeroValue 58).run Tryd.prog w = .ok (.pointer none) w := by kernel_rfl
theorem checkS (b : Bool) (s : ByteArray) (w : World) : (Instr.checkKey b 10000 9 (.string s)).run Tryd.prog w = .ok () w := by kernel_rfl
theorem run_findS (s : ByteArray) (L : List Ent) (w : World) :
    (Instr.findKey 9 (.string s) (L.map Ent.entry)).run Tryd.prog w = .ok ((findAt s L 0).map fun p => (p.1, .pointer (some ⟨p.2.fb, 0, none⟩))) w := by
  simp [Instr.findKey, run_underlying Tryd.underlying9, findNow_ents]

theorem run_lookupF (mb clock : Nat) (L : List Ent) (s : ByteArray) (w : World) (h : w.heap[mb]? = some (.map (L.map Ent.entry).toArray clock)) :
    (Instr.lookup 51 (.map (some mb)) (.string s) false).run Tryd.prog w = .ok (lookV L s) w := by
  have g := findAt_get s L 0
  simp only [Instr.lookup, Sem.run_bind, run_underlying Tryd.underlying51, MapKept.run_getObj_map h, checkS, Sem.run_pure, Result.andThen_ok, run_findS]
  unfold lookV
  cases hf : findAt s L 0 with
  | none => rw [hf] at g; simp [← g]
  | some p => rw [hf] at g; simp [← g]

theorem run_lookupNil (s : ByteArray) (w : World) :
    (Instr.lookup 51 (.map none) (.string s) false).run Tryd.prog w = .ok (.pointer none) w := by
  simp [Instr.lookup, run_underlying Tryd.underlying51, checkS, Instr.findKey, Instr.findNow, run_underlying Tryd.underlying9]

theorem run_lookupOkF (mb clock : Nat) (L : List Ent) (s : ByteArray) (w : World) (h : w.heap[mb]? = some (.map (L.map Ent.entry).toArray clock)) :
    (Instr.lookup 51 (.map (some mb)) (.string s) true).run Tryd.prog w = .ok (.tuple #[lookV L s, .bool (getE L s).isSome]) w := by
  have g := findAt_get s L 0
  simp only [Instr.lookup, Sem.run_bind, run_underlying Tryd.underlying51, MapKept.run_getObj_map h, checkS, Sem.run_pure, Result.andThen_ok, run_findS]
  unfold lookV
  cases hf : findAt s L 0 with
  | none => rw [hf] at g; simp [← g]
  | some p => rw [hf] at g; simp [← g]

/-- The files behind an update: the name's entry bears the new block, or stands at the end. -/
def putE (L : List Ent) (clock : Nat) (e : Ent) : List Ent × Nat :=
  match findAt e.name L 0 with
  | some (j, d) => (L.modify j fun _ => { e with name := d.name, born := d.born }, clock)
  | none => (L ++ [{ e with born := clock }], clock + 1)

def setObjW (w : World) (b : Nat) (o : Obj) : World := { w with heap := w.heap.setIfInBounds b o }

theorem Has.setObj {w : World} {m : Mem} (h : Has w m) {b : Nat} {o : Obj} (k : m b = some o) (o' : Obj) : Has (setObjW w b o') (m.set b o') := by
  intro j x hj
  show (w.heap.setIfInBounds b o')[j]? = some x
  by_cases e : j = b
  · subst e
    rw [Mem.set_same] at hj
    have := h.lt k
    rw [Array.getElem?_setIfInBounds]
    simp [this]; simpa using hj
  · rw [Mem.set_ne _ _ e] at hj
    rw [Array.getElem?_setIfInBounds, if_neg (Ne.symm e)]; exact h _ _ hj
theorem Env.setObj {a w : World} (h : Env a w) (b : Nat) (o : Obj) : Env a (setObjW w b o) := ⟨h.os, h.tape, h.output⟩

theorem modify_entry (L : List Ent) (j : Nat) (d : Ent) (hj : L[j]? = some d) (e : Ent) (hn : d.name = e.name) :
    ((L.map Ent.entry).toArray.modify j fun x => { x with key := .string e.name, val := .pointer (some ⟨e.fb, 0, none⟩) }) = ((L.modify j fun _ => { e with name := d.name, born := d.born }).map Ent.entry).toArray := by
  apply Array.ext'
  simp only [List.modify_toArray, List.toList_toArray]
  apply List.ext_getElem?
  intro i
  simp only [List.getElem?_modify, List.getElem?_map]
  by_cases h : j = i
  · subst h
    rw [hj]
    simp [Ent.entry, hn]
  · simp [h]

theorem run_updateF (mb clock : Nat) (L : List Ent) (e : Ent) (w : World) (h : w.heap[mb]? = some (.map (L.map Ent.entry).toArray clock)) :
    (Instr.mapUpdate 51 (.map (some mb)) (.string e.name) (.pointer (some ⟨e.fb, 0, none⟩))).run Tryd.prog w
      = .ok () (setObjW w mb (mapObj (putE L clock e).1 (putE L clock e).2)) := by
  simp only [Instr.mapUpdate, Sem.run_bind, run_underlying Tryd.underlying51, MapKept.run_getObj_map h, checkS, Result.andThen_ok, run_findS, putE]
  cases hf : findAt e.name L 0 with
  | none =>
    simp only [Option.map_none]
    rw [MapKept.run_setObj_map _ h]
    simp [setObjW, mapObj, Ent.entry]
  | some p =>
    obtain ⟨j, d⟩ := p
    obtain ⟨_, hj, hn, _⟩ := findAt_spec _ _ _ _ _ hf
    simp only [Nat.sub_zero] at hj
    simp only [Option.map_some, Instr.keyThatStays]
    have hk : (((L.map Ent.entry).toArray[j]?).map (·.key)).getD (.string e.name) = .string e.name := by
      simp [hj, Ent.entry, hn]
    rw [hk]
    simp only [Instr.sameBits, bq, decide_true, if_true, Sem.run_bind, Sem.run_pure, Result.andThen_ok]
    rw [MapKept.run_setObj_map _ h]
    rw [modify_entry L j d hj e hn]
    rfl

theorem eraseIdx_map {α β : Type} (f : α → β) : ∀ (l : List α) (j : Nat), (l.map f).eraseIdx j = (l.eraseIdx j).map f
  | [], _ => rfl
  | _ :: _, 0 => rfl
  | a :: l, j + 1 => by simp [eraseIdx_map f l j]

theorem run_deleteF (mb clock : Nat) (L : List Ent) (s : ByteArray) (w : World) (h : w.heap[mb]? = some (.map (L.map Ent.entry).toArray clock)) :
    (Builtin.delete_ #[51, 9] 0 #[.map (some mb), .string s]).run Tryd.prog w
      = .ok (.tuple #[]) (setObjW w mb (mapObj (match findAt s L 0 with | some (j, _) => L.eraseIdx j | none => L) clock)) := by
  simp only [Builtin.delete_, List.getElem?_toArray, List.getElem?_cons_zero, List.getElem?_cons_succ]
  simp only [Sem.run_bind, run_underlying Tryd.underlying51, MapKept.run_getObj_map h, checkS, Result.andThen_ok, run_findS]
  cases hf : findAt s L 0 with
  | none =>
    simp only [Option.map_none, Sem.run_bind]
    rw [MapKept.run_setObj_map _ h]
    simp [setObjW, mapObj]
  | some p =>
    obtain ⟨j, d⟩ := p
    obtain ⟨_, hj, hn, _⟩ := findAt_spec _ _ _ _ _ hf
    have hlt : j < L.length := by
      rcases Nat.lt_or_ge j L.length with x | x
      · exact x
      · simp only [Nat.sub_zero] at hj; rw [List.getElem?_eq_none x] at hj; cases hj
    simp only [Option.map_some, Sem.run_bind]
    rw [MapKept.run_setObj_map _ h]
    simp [setObjW, mapObj, Array.eraseIdxIfInBounds, hlt, eraseIdx_map]

theorem run_lenF (mb clock : Nat) (L : List Ent) (w : World) (T : TypeId) (h : w.heap[mb]? = some (.map (L.map Ent.entry).toArray clock)) :
    (Builtin.len_ #[51] T #[.map (some mb)]).run Tryd.prog w = .ok (.int .i64 L.length) w := by
  simp [Builtin.len_, run_underlying Tryd.underlying51, MapKept.run_getObj_map h, Result.andThen, goInt]
end Go.Proofs.YtcdmdkgiabfbeaaDoor
