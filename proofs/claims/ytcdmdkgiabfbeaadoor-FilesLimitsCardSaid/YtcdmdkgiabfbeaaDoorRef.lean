/-
  The document's own store: what it is in memory; Named; find.
-/
import Derived.Test.YtcdmdkgiabfbeaaDoorFiles
namespace Go.Proofs.YtcdmdkgiabfbeaaDoor
open Go.RowKit

structure RF where
  name : ByteArray
  bv : Value
  bs : List UInt8
structure RO where
  file : Nat
  mode : Int
  pos : Nat
/-- The document's store: its files, its open ones (by their numbers), its fails, the operations, the failure of the last. -/
structure RG where
  fv : Value
  F : List RF
  ov : Value
  O : List RO
  xv : Value
  X : List Fail3
  n : Nat
  go : Fail3

def rfCells (f : RF) : List Value := [.string f.name, f.bv]
def roCells (o : RO) : List Value := [.int .i64 o.file, .int .i64 o.mode, .int .i64 o.pos]
def rstoreObj (r : RG) : Obj := .cells #[r.fv, r.ov, r.xv, .int .i64 r.n, .int .i64 r.go.1, .int .i64 r.go.2.1, .int .i64 r.go.2.2] 91 (0, 0)

structure RRep (m : Mem) (rb : Nat) (r : RG) : Prop where
  store : m rb = some (rstoreObj r)
  files : Row m r.fv 87 2 r.F.length (r.F.flatMap rfCells)
  bytes : ∀ f ∈ r.F, Row m f.bv 5 1 f.bs.length (f.bs.map byteV)
  sep : r.F.Pairwise fun f d => ∀ b, f.bv.ownBlock = some b → d.bv.ownBlock ≠ some b
  opens : Row m r.ov 170 3 33 (r.O.flatMap roCells)
  olen : r.O.length = 33
  fails : Fails m r.xv r.X
  xlen : r.X.length ≤ 1000
  head : ∃ f F, r.F = f :: F ∧ f.name = ⟨#[]⟩
  flen : r.F.length ≤ 101 + r.n
  names : (r.F.filter fun f => decide (f.name ≠ ⟨#[]⟩)).Pairwise fun f d => f.name ≠ d.name
  named : ∀ f ∈ r.F, f.name ≠ ⟨#[]⟩ → isNameB f.name = true
  bsz : ∀ f ∈ r.F, f.bs.length ≤ 262144
  ofile : ∀ o ∈ r.O, o.file = 0 ∨ ∃ f, r.F[o.file]? = some f ∧ f.name ≠ ⟨#[]⟩
  opos : ∀ o ∈ r.O, o.pos ≤ 262144

theorem RRep.le {m m' : Mem} {rb : Nat} {r : RG} (h : RRep m rb r) (l : m.le m') : RRep m' rb r :=
  { h with
    store := l _ _ h.store
    files := h.files.le l
    bytes := fun f hf => (h.bytes f hf).le l
    opens := h.opens.le l
    fails := Row.le h.fails l }

theorem rfCells_get : ∀ (l : List RF) (k : Nat) (h : k < l.length), (l.flatMap rfCells)[k * 2]? = some (.string l[k].name) ∧ (l.flatMap rfCells)[k * 2 + 1]? = some l[k].bv
  | f :: l, 0, _ => by simp [rfCells]
  | f :: l, k + 1, h => by
    have ih := rfCells_get l k (by simpa using h)
    simp only [List.flatMap_cons, rfCells, Nat.add_mul, Nat.one_mul]
    constructor
    · rw [List.getElem?_append_right (by simp), show k * 2 + 2 - [Value.string f.name, f.bv].length = k * 2 from by simp]
      exact ih.1
    · rw [List.getElem?_append_right (by simp), show k * 2 + 2 + 1 - [Value.string f.name, f.bv].length = k * 2 + 1 from by simp]
      exact ih.2
theorem rfCells_len (l : List RF) : (l.flatMap rfCells).length = l.length * 2 := by
  induction l with
  | nil => rfl
  | cons f l ih => rw [List.flatMap_cons, List.length_append, ih, List.length_cons]; simp [rfCells]; omega

/-- The files' cells, in a world. -/
theorem RRep.at {m : Mem} {rb : Nat} {r : RG} {w : World} (h : RRep m rb r) (hm : Has w m) : ∃ fb cap, r.fv = .slice (some ⟨fb, 0, none⟩) r.F.length cap ∧
    ∀ k (hk : k < r.F.length), w.cell? ⟨fb, k * 2, none⟩ = some (.string r.F[k].name) ∧ w.cell? ⟨fb, k * 2 + 1, none⟩ = some r.F[k].bv := by
  obtain ⟨f, F', hF, _⟩ := h.head
  have hpos : 0 < r.F.length := by rw [hF]; simp
  obtain ⟨_, ⟨_, h0⟩ | ⟨fb, cap, cur, fz, hv, hg, _, hn, hc, hcs, ht⟩⟩ := h.files
  · omega
  · refine ⟨fb, cap, hv, fun k hk => ?_⟩
    obtain ⟨g0, g1⟩ := rfCells_get r.F k hk
    have key : ∀ j v, j < r.F.length * 2 → (r.F.flatMap rfCells)[j]? = some v → w.cell? ⟨fb, j, none⟩ = some v := fun j v hj hv => by
      rw [hm.cell hg, ← hv, ← ht, List.getElem?_take, if_pos hj]; simp
    exact ⟨key _ _ (by omega) g0, key _ _ (by omega) g1⟩

theorem toList_inj {a b : ByteArray} (h : a.toList = b.toList) : a = b := by
  rw [ByteArray.toList_eq, ByteArray.toList_eq] at h
  cases a; cases b
  simp only [ByteArray.mk.injEq]
  exact Array.toList_inj.1 h

theorem named_ref (s : ByteArray) (w : World) : Calls Tryd.prog 47 #[.string s] w fun e w' => e = .returned (.bool (isNameB s)) ∧ w' = w := by
  have HI := Lib.hid (isNameB_eq s)
  by_cases h1 : 1 ≤ (s.size : Int)
  · by_cases h2 : (s.size : Int) ≤ 255
    · go_enter Tryd.func47, Tryd.ntmps47
      go_wp2_with fail
      go_ret
      refine ⟨ret_bool ?_, rfl⟩
      rw [HI.out]; symm; simp; omega
    · go_enter Tryd.func47, Tryd.ntmps47
      go_wp2_with fail
      go_ret
      refine ⟨ret_bool ?_, rfl⟩
      rw [HI.out]; symm; simp; omega
  · go_enter Tryd.func47, Tryd.ntmps47
    go_wp2_with fail
    go_ret
    refine ⟨ret_bool ?_, rfl⟩
    rw [HI.out]; symm; simp; omega

/-- What find answers. -/
def FindR (F : List RF) (s : ByteArray) (n : Nat) : Prop :=
  (n = 0 ∧ ∀ j f, 1 ≤ j → F[j]? = some f → ¬ (f.name = s ∧ s ≠ ⟨#[]⟩)) ∨ (1 ≤ n ∧ s ≠ ⟨#[]⟩ ∧ ∃ f, F[n]? = some f ∧ f.name = s)

set_option maxHeartbeats 1000000 in
theorem find_any (rb : Nat) (r : RG) (s : ByteArray) (w : World) (m : Mem) (hm : Has w m) (hr : RRep m rb r) (hn : r.n ≤ 999999) :
    Calls Tryd.prog 48 #[.pointer (some ⟨rb, 0, none⟩), .string s] w fun e w' => ∃ n : Nat, e = .returned (.int .i64 n) ∧ FindR r.F s n ∧ w' = w := by
  obtain ⟨fb, cap, hfv, hat⟩ := hr.at hm
  have c0 : w.cell? ⟨rb, 0, none⟩ = some (.slice (some ⟨fb, 0, none⟩) r.F.length cap) := by rw [hm.cell hr.store, ← hfv]; rfl
  have hflt : fb < w.heap.size := by
    obtain ⟨_, ⟨h, _⟩ | ⟨gb, cp, cur, fz, h, hg, _⟩⟩ := hr.files
    · rw [hfv] at h; simp at h
    · rw [hfv] at h; simp only [Value.slice.injEq, Option.some.injEq, Addr.mk.injEq] at h
      obtain ⟨⟨rfl, _⟩, _⟩ := h
      exact hm.lt hg
  have hfl := hr.flen
  have AT := Lib.hid hat
  clear hm hat hfv
  go_enter Tryd.func48, Tryd.ntmps48
  go_wp2_with fail
  go_loop [5] (fun i => ∃ k : Nat, 1 ≤ k ∧ i = .int .i64 k ∧ Hid (∀ j f, 1 ≤ j → j < k → r.F[j]? = some f → ¬ (f.name = s ∧ s ≠ ⟨#[]⟩))) (fun i => r.F.length + 1 - (intOf i).toNat)
  case atStart => exact ⟨1, Nat.le_refl _, rfl, Lib.hid (fun j f h1 h2 => by omega)⟩
  case round =>
    obtain ⟨k, hk1, rfl, HN⟩ := hrel
    by_cases hlt : k < r.F.length
    · obtain ⟨e0, _⟩ := AT.out k hlt
      have hget : r.F[k]? = some r.F[k] := List.getElem?_eq_getElem hlt
      obtain ⟨nm, hnm⟩ : ∃ nm, r.F[k].name = nm := ⟨_, rfl⟩
      rw [hnm] at e0
      have HNM := Lib.hid hnm
      have HGET := Lib.hid hget
      clear hnm hget
      by_cases heq : nm = s
      · subst heq
        have hb : (nm == nm) = true := by rw [bq]; simp
        by_cases hem : nm.toList = []
        · have hie : nm.toList.isEmpty = true := by rw [hem]; rfl
          go_wp2_with fail
          go_round
          case rel =>
            refine ⟨k + 1, by omega, by go_num, Lib.hid (fun j f h1 h2 hf => ?_)⟩
            rcases Nat.lt_or_ge j k with h | h
            · exact HN.out j f h1 h hf
            · obtain rfl : j = k := by omega
              rintro ⟨_, hne⟩
              refine hne ?_
              rw [ByteArray.toList_eq] at hem
              cases nm with | mk d => cases d; simp at hem; rw [hem]
          case measure => simp [intOf]; omega
        · have hie : nm.toList.isEmpty = false := by simpa using hem
          go_wp2_with fail
          go_ret
          refine ⟨k, rfl, .inr ⟨hk1, ?_, _, HGET.out, HNM.out⟩, rfl⟩
          rintro rfl
          exact hem (by rw [ByteArray.toList_eq])
      · have hb : ¬ nm.toList = s.toList := fun h => heq (toList_inj h)
        go_wp2_with fail
        go_round
        case rel =>
          refine ⟨k + 1, by omega, by go_num, Lib.hid (fun j f h1 h2 hf => ?_)⟩
          rcases Nat.lt_or_ge j k with h | h
          · exact HN.out j f h1 h hf
          · obtain rfl : j = k := by omega
            rw [HGET.out] at hf
            obtain rfl := Option.some.inj hf
            rintro ⟨h1, _⟩
            exact heq (HNM.out ▸ h1)
        case measure => simp [intOf]; omega
    · go_wp2_with fail
      go_ret
      refine ⟨0, rfl, .inl ⟨rfl, fun j f h1 hf => HN.out j f h1 ?_ hf⟩, rfl⟩
      have := (List.getElem?_eq_some_iff.1 hf).1
      omega
end Go.Proofs.YtcdmdkgiabfbeaaDoor
