/-
  Files: all files, by rising names.
-/
import Derived.Test.YtcdmdkgiabfbeaaGreatDoorK11
import Derived.Test.YtcdmdkgiabfbeaaGreatDoorK13
import Derived.Laws.MakeOwn
namespace Go.Proofs.YtcdmdkgiabfbeaaGreatDoor
open Go.RowKit

theorem mem_take_succ {α : Type} {P : α → Prop} {l : List α} {k : Nat} (hk : k < l.length) (h : ∀ x ∈ l.take k, P x) (h1 : P l[k]) : ∀ x ∈ l.take (k + 1), P x := by
  intro x hx
  rw [List.take_succ_eq_append_getElem hk] at hx
  rcases List.mem_append.1 hx with hx | hx
  · exact h x hx
  · rw [List.mem_singleton.1 hx]; exact h1

/-- All files, as Files lists them. -/
def filesOf (L : List Ent) : List File2 := (namesB L).map fun x => (⟨x.toArray⟩, ⟨(((getE L ⟨x.toArray⟩).map (·.bs)).getD []).toArray⟩)

theorem fileCells_len (l : List File2) : (l.flatMap fileCells).length = l.length * 2 := by
  induction l with
  | nil => rfl
  | cons f l ih => rw [List.flatMap_cons, List.length_append, ih, List.length_cons]; simp [fileCells]; omega

theorem namesB_mem {L : List Ent} {x : List UInt8} (h : x ∈ namesB L) : ∃ e ∈ L, (⟨x.toArray⟩ : ByteArray) = e.name := by
  have h1 := (List.mergeSort_perm (L.map fun e => e.name.data.toList) leB).mem_iff.1 h
  obtain ⟨e, he, rfl⟩ := List.mem_map.1 h1
  exact ⟨e, he, by cases e.name; simp⟩
theorem namesB_length (L : List Ent) : (namesB L).length = L.length := by unfold namesB; rw [List.length_mergeSort, List.length_map]

theorem infoFile : (Tryz.prog.info? 60).map (fun i => (i.zero, i.size, i.bytes)) = some (some (.agg #[.string ⟨#[]⟩, .string ⟨#[]⟩]), 2, 32) := by kernel_rfl

def FilesR (m : Mem) (fl : List File2) (v : Value) (m' : Mem) : Prop := Row m' v 60 2 fl.length (fl.flatMap fileCells) ∧ ∀ b, v.ownBlock = some b → m b = none

set_option maxHeartbeats 4000000 in
set_option maxRecDepth 100000 in
theorem files_any (sb : Nat) (g : G) (w : World) (m : Mem) (hm : Has w m) (hr : SRep m sb g) :
    Calls Tryz.prog 17 #[.pointer (some ⟨sb, 0, none⟩)] w (Post w m (FilesR m (filesOf g.L))) := by
  have c0 : w.cell? ⟨sb, 0, none⟩ = some (.map (some g.mb)) := by rw [hm.cell hr.store]; rfl
  have H := Lib.hid hm
  have HR := Lib.hid hr
  clear hm hr
  go_enter Tryz.func17, Tryz.ntmps17
  go_wp2_with fail
  refine (keys_call (some g.mb) w).mono ?_
  rintro e w1 ⟨rfl, rfl⟩
  go_wp2_with fail
  refine (sorted_any w H.out HR.out).mono ?_
  rintro e w2 ⟨v, m2, rfl, l2, h2, n2, hv⟩
  obtain ⟨va, vc, rfl, _⟩ := hv.lenV
  have L2 := Lib.hid l2
  have H2 := Lib.hid h2
  have N2 := Lib.hid n2
  have HV := Lib.hid hv
  have hnl := namesB_length g.L
  have hll := HR.out.llen
  clear l2 h2 n2 hv c0
  go_wp2_with fail
  go_loopw [3, 15] (fun v i wr => ∃ (k : Nat) (xa : Option Addr) (xc : Nat), k ≤ (namesB g.L).length ∧ i = .int .i64 k ∧ v = .slice xa k xc ∧ Hid (∃ mr, m2.le mr ∧ Has wr mr ∧ Env w wr ∧ Row mr (.slice xa k xc) 60 2 k (((filesOf g.L).take k).flatMap fileCells) ∧ ∀ b, (Value.slice xa k xc).ownBlock = some b → m2 b = none)) (fun _ i _ => (namesB g.L).length - (intOf i).toNat)
  case atStart => exact ⟨0, none, 0, Nat.zero_le _, rfl, rfl, Lib.hid ⟨m2, Mem.le_refl _, H2.out, N2.out, Row.nil _ _ _, fun b hb => by cases hb⟩⟩
  case round =>
    obtain ⟨k, xa, xc, hk, rfl, rfl, hX⟩ := hrel
    obtain ⟨mr, lr, hwr, nr, row, own⟩ := hX.out
    by_cases hlt : k < (namesB g.L).length
    · obtain ⟨vb, rfl⟩ : ∃ vb, va = some ⟨vb, 0, none⟩ := by
        obtain ⟨_, ⟨h, h0⟩ | ⟨gg, cap, cur, fz, h, _⟩⟩ := HV.out
        · omega
        · simp only [Value.slice.injEq] at h; exact ⟨gg, h.1⟩
      have e0 : wr.cell? ⟨vb, k, none⟩ = some (encStr (namesB g.L)[k]) := by
        rw [(HV.out.le lr).cell hwr (by omega)]
        simp [hlt]
      obtain ⟨e, he, hen⟩ := namesB_mem (List.getElem_mem hlt)
      have hr := HR.out.le (Mem.le_trans L2.out lr)
      have hge := getE_of hr.names he
      have hfk : (filesOf g.L)[k]? = some (e.name, ⟨e.bs.toArray⟩) := by
        unfold filesOf
        rw [List.getElem?_map, List.getElem?_eq_getElem hlt]
        simp only [Option.map_some, hen, hge, Option.getD_some]
      have hTS : (filesOf g.L).take (k + 1) = (filesOf g.L).take k ++ [(e.name, ⟨e.bs.toArray⟩)] := by
        rw [List.take_add_one, hfk]; rfl
      have e0' : wr.cell? ⟨vb, k, none⟩ = some (.string e.name) := by rw [e0, ← hen]
      have e1 : wr.cell? ⟨sb, 0, none⟩ = some (.map (some g.mb)) := by rw [hwr.cell hr.store]; rfl
      have e2 : wr.heap[g.mb]? = some (.map (g.L.map Ent.entry).toArray g.clock) := hwr _ _ hr.map
      have hlk : ∀ w0 : World, w0.heap[g.mb]? = some (.map (g.L.map Ent.entry).toArray g.clock) → (Instr.lookup 68 (.map (some g.mb)) (.string e.name) false).run Tryz.prog w0 = .ok (.pointer (some ⟨e.fb, 0, none⟩)) w0 := fun w0 h => by
        rw [run_lookupF g.mb g.clock g.L _ w0 h, lookV_some hge]
      obtain ⟨ba, bc, hbv, _⟩ := (hr.row e he).lenV
      have e3 : wr.cell? ⟨e.fb, 0, none⟩ = some (.slice ba e.bs.length bc) := by rw [hwr.cell (hr.file e he), ← hbv]; rfl
      have CV : (convert 26 9 (.slice ba e.bs.length bc)).run Tryz.prog wr = .ok (.string ⟨e.bs.toArray⟩) wr := by
        rw [← hbv]; exact conv_back (row_wind (hr.row e he)) wr hwr
      have hfr := hwr.fresh (Nat.le_refl _)
      have h5 := hwr.alloc (.cells #[.string e.name, .string ⟨e.bs.toArray⟩] 60)
      have l5 := Mem.le_set mr (.cells #[.string e.name, .string ⟨e.bs.toArray⟩] 60) hfr
      obtain ⟨i0, hi, hz0, hz1, hz2⟩ := info_parts infoFile
      obtain ⟨v', w6, m6, hrun, n6, h6, row6, gr6⟩ := run_append_row (P := Tryz.prog) 40 40 60 i0 _ 2 32 Tryz.underlying40 hi hz0 hz1 hz2 rfl (by decide)
        h5 _ k _ (row.le l5) _ 0 1 1 [.string e.name, .string ⟨e.bs.toArray⟩] rfl (Cells.whole (Mem.set_same _ _ _) rfl) (by simp [Value.oneCell']) (by decide) (by omega) (by omega)
      have row6' : Row m6 v' 60 2 (k + 1) (((filesOf g.L).take (k + 1)).flatMap fileCells) := by
        rw [hTS, List.flatMap_append]; simpa [fileCells] using row6
      obtain ⟨xa', xc', rfl, _⟩ := row6'.lenV
      have lm : m2.le m6 := fun b o hb => gr6.keep (l5 _ _ (lr _ _ hb)) (fun hv => by
        rw [own b hv] at hb; cases hb)
      have own6 : ∀ b, (Value.slice xa' (k + 1) xc').ownBlock = some b → m2 b = none := fun b hb => by
        rcases gr6 with ⟨_, h2⟩ | ⟨gb, o, h2, _, h4⟩
        · exact own b (by rw [← h2]; exact hb)
        · rw [hb] at h2
          obtain rfl := Option.some.inj h2
          rcases h4 with h4 | h4
          · exact own b h4
          · exact Mem.none_le lr (Mem.none_le l5 h4)
      have LM := Lib.hid lm
      have OWN6 := Lib.hid own6
      have ROW6 := Lib.hid row6'
      have H6 := Lib.hid h6
      have N6 := Lib.hid ((nr.alloc (.cells #[.string e.name, .string ⟨e.bs.toArray⟩] 60)).trans n6)
      clear lr hwr nr row own e0 he hen hr hge hfk hTS hfr h5 l5 hi hz0 hz1 hz2 n6 h6 row6 gr6 row6' lm own6 hX hbv
      go_wp2_with (at_builtin; refine wpList_b2 rfl .append Builtin.append_ (fun _ _ _ _ => rfl) _ _ _ _ rfl rfl rfl hrun ?_)
      go_roundw
      case rel => exact ⟨k + 1, xa', xc', hlt, by go_num, rfl, Lib.hid ⟨m6, LM.out, H6.out, N6.out, ROW6.out, OWN6.out⟩⟩
      case measure => simp [intOf]; omega
    · have hkn : k = (namesB g.L).length := by omega
      have hfl : (filesOf g.L).length = k := by unfold filesOf; rw [List.length_map]; omega
      rw [List.take_of_length_le (by omega)] at row
      have LM := Lib.hid (Mem.le_trans L2.out lr)
      have OWN : Hid (∀ b, (Value.slice xa k xc).ownBlock = some b → m b = none) := Lib.hid (fun b hb => Mem.none_le L2.out (own b hb))
      have ROW := Lib.hid row
      have HWR := Lib.hid hwr
      have NR := Lib.hid nr
      clear lr own row hwr nr hX
      go_wp2_with fail
      go_ret
      exact Post.mk mr LM.out HWR.out NR.out ⟨by rw [hfl]; exact ROW.out, OWN.out⟩
end Go.Proofs.YtcdmdkgiabfbeaaGreatDoor

/-
  The document's own store: what it is in memory; Named; find.
-/
namespace Go.Proofs.YtcdmdkgiabfbeaaGreatDoor
open Go.RowKit

structure RF where
  name : ByteArray
  bv : Value
  bs : List UInt8
structure RO where
  file : Nat
  mode : Int
  pos : Nat
/-- The document's store: its files, its open ones (by their numbers), its fails, the operations, the failure of the last. -/
structure RG where
  fv : Value
  F : List RF
  ov : Value
  O : List RO
  xv : Value
  X : List Fail3
  n : Nat
  go : Fail3

def rfCells (f : RF) : List Value := [.string f.name, f.bv]
def roCells (o : RO) : List Value := [.int .i64 o.file, .int .i64 o.mode, .int .i64 o.pos]
def rstoreObj (r : RG) : Obj := .cells #[r.fv, r.ov, r.xv, .int .i64 r.n, .int .i64 r.go.1, .int .i64 r.go.2.1, .int .i64 r.go.2.2] 58 (0, 0)

structure RRep (m : Mem) (rb : Nat) (r : RG) : Prop where
  store : m rb = some (rstoreObj r)
  files : Row m r.fv 100 2 r.F.length (r.F.flatMap rfCells)
  bytes : ∀ f ∈ r.F, Row m f.bv 5 1 f.bs.length (f.bs.map byteV)
  sep : r.F.Pairwise fun f d => ∀ b, f.bv.ownBlock = some b → d.bv.ownBlock ≠ some b
  opens : Row m r.ov 115 3 33 (r.O.flatMap roCells)
  olen : r.O.length = 33
  fails : Fails m r.xv r.X
  xlen : r.X.length ≤ 1000
  head : ∃ f F, r.F = f :: F ∧ f.name = ⟨#[]⟩
  flen : r.F.length ≤ 101 + r.n
  names : (r.F.filter fun f => decide (f.name ≠ ⟨#[]⟩)).Pairwise fun f d => f.name ≠ d.name
  named : ∀ f ∈ r.F, f.name ≠ ⟨#[]⟩ → isNameB f.name = true
  bsz : ∀ f ∈ r.F, f.bs.length ≤ 262144
  ofile : ∀ o ∈ r.O, o.file = 0 ∨ ∃ f, r.F[o.file]? = some f ∧ f.name ≠ ⟨#[]⟩
  opos : ∀ o ∈ r.O, o.pos ≤ 262144

theorem RRep.le {m m' : Mem} {rb : Nat} {r : RG} (h : RRep m rb r) (l : m.le m') : RRep m' rb r :=
  { h with
    store := l _ _ h.store
    files := h.files.le l
    bytes := fun f hf => (h.bytes f hf).le l
    opens := h.opens.le l
    fails := Row.le h.fails l }

theorem rfCells_get : ∀ (l : List RF) (k : Nat) (h : k < l.length), (l.flatMap rfCells)[k * 2]? = some (.string l[k].name) ∧ (l.flatMap rfCells)[k * 2 + 1]? = some l[k].bv
  | f :: l, 0, _ => by simp [rfCells]
  | f :: l, k + 1, h => by
    have ih := rfCells_get l k (by simpa using h)
    simp only [List.flatMap_cons, rfCells, Nat.add_mul, Nat.one_mul]
    constructor
    · rw [List.getElem?_append_right (by simp), show k * 2 + 2 - [Value.string f.name, f.bv].length = k * 2 from by simp]
      exact ih.1
    · rw [List.getElem?_append_right (by simp), show k * 2 + 2 + 1 - [Value.string f.name, f.bv].length = k * 2 + 1 from by simp]
      exact ih.2
theorem rfCells_len (l : List RF) : (l.flatMap rfCells).length = l.length * 2 := by
  induction l with
  | nil => rfl
  | cons f l ih => rw [List.flatMap_cons, List.length_append, ih, List.length_cons]; simp [rfCells]; omega

/-- The files' cells, in a world. -/
theorem RRep.at {m : Mem} {rb : Nat} {r : RG} {w : World} (h : RRep m rb r) (hm : Has w m) : ∃ fb cap, r.fv = .slice (some ⟨fb, 0, none⟩) r.F.length cap ∧
    ∀ k (hk : k < r.F.length), w.cell? ⟨fb, k * 2, none⟩ = some (.string r.F[k].name) ∧ w.cell? ⟨fb, k * 2 + 1, none⟩ = some r.F[k].bv := by
  obtain ⟨f, F', hF, _⟩ := h.head
  have hpos : 0 < r.F.length := by rw [hF]; simp
  obtain ⟨_, ⟨_, h0⟩ | ⟨fb, cap, cur, fz, hv, hg, _, hn, hc, hcs, ht⟩⟩ := h.files
  · omega
  · refine ⟨fb, cap, hv, fun k hk => ?_⟩
    obtain ⟨g0, g1⟩ := rfCells_get r.F k hk
    have key : ∀ j v, j < r.F.length * 2 → (r.F.flatMap rfCells)[j]? = some v → w.cell? ⟨fb, j, none⟩ = some v := fun j v hj hv => by
      rw [hm.cell hg, ← hv, ← ht, List.getElem?_take, if_pos hj]; simp
    exact ⟨key _ _ (by omega) g0, key _ _ (by omega) g1⟩

theorem toList_inj {a b : ByteArray} (h : a.toList = b.toList) : a = b := by
  rw [ByteArray.toList_eq, ByteArray.toList_eq] at h
  cases a; cases b
  simp only [ByteArray.mk.injEq]
  exact Array.toList_inj.1 h

theorem named_ref (s : ByteArray) (w : World) : Calls Tryz.prog 53 #[.string s] w fun e w' => e = .returned (.bool (isNameB s)) ∧ w' = w := by
  have HI := Lib.hid (isNameB_eq s)
  by_cases h1 : 1 ≤ (s.size : Int)
  · by_cases h2 : (s.size : Int) ≤ 255
    · go_enter Tryz.func53, Tryz.ntmps53
      go_wp2_with fail
      go_ret
      refine ⟨ret_bool ?_, rfl⟩
      rw [HI.out]; symm; simp; omega
    · go_enter Tryz.func53, Tryz.ntmps53
      go_wp2_with fail
      go_ret
      refine ⟨ret_bool ?_, rfl⟩
      rw [HI.out]; symm; simp; omega
  · go_enter Tryz.func53, Tryz.ntmps53
    go_wp2_with fail
    go_ret
    refine ⟨ret_bool ?_, rfl⟩
    rw [HI.out]; symm; simp; omega

/-- What find answers. -/
def FindR (F : List RF) (s : ByteArray) (n : Nat) : Prop :=
  (n = 0 ∧ ∀ j f, 1 ≤ j → F[j]? = some f → ¬ (f.name = s ∧ s ≠ ⟨#[]⟩)) ∨ (1 ≤ n ∧ s ≠ ⟨#[]⟩ ∧ ∃ f, F[n]? = some f ∧ f.name = s)

set_option maxHeartbeats 1000000 in
theorem find_any (rb : Nat) (r : RG) (s : ByteArray) (w : World) (m : Mem) (hm : Has w m) (hr : RRep m rb r) (hn : r.n ≤ 999999) :
    Calls Tryz.prog 54 #[.pointer (some ⟨rb, 0, none⟩), .string s] w fun e w' => ∃ n : Nat, e = .returned (.int .i64 n) ∧ FindR r.F s n ∧ w' = w := by
  obtain ⟨fb, cap, hfv, hat⟩ := hr.at hm
  have c0 : w.cell? ⟨rb, 0, none⟩ = some (.slice (some ⟨fb, 0, none⟩) r.F.length cap) := by rw [hm.cell hr.store, ← hfv]; rfl
  have hflt : fb < w.heap.size := by
    obtain ⟨_, ⟨h, _⟩ | ⟨gb, cp, cur, fz, h, hg, _⟩⟩ := hr.files
    · rw [hfv] at h; simp at h
    · rw [hfv] at h; simp only [Value.slice.injEq, Option.some.injEq, Addr.mk.injEq] at h
      obtain ⟨⟨rfl, _⟩, _⟩ := h
      exact hm.lt hg
  have hfl := hr.flen
  have AT := Lib.hid hat
  clear hm hat hfv
  go_enter Tryz.func54, Tryz.ntmps54
  go_wp2_with fail
  go_loop [5] (fun i => ∃ k : Nat, 1 ≤ k ∧ i = .int .i64 k ∧ Hid (∀ j f, 1 ≤ j → j < k → r.F[j]? = some f → ¬ (f.name = s ∧ s ≠ ⟨#[]⟩))) (fun i => r.F.length + 1 - (intOf i).toNat)
  case atStart => exact ⟨1, Nat.le_refl _, rfl, Lib.hid (fun j f h1 h2 => by omega)⟩
  case round =>
    obtain ⟨k, hk1, rfl, HN⟩ := hrel
    by_cases hlt : k < r.F.length
    · obtain ⟨e0, _⟩ := AT.out k hlt
      have hget : r.F[k]? = some r.F[k] := List.getElem?_eq_getElem hlt
      obtain ⟨nm, hnm⟩ : ∃ nm, r.F[k].name = nm := ⟨_, rfl⟩
      rw [hnm] at e0
      have HNM := Lib.hid hnm
      have HGET := Lib.hid hget
      clear hnm hget
      by_cases heq : nm = s
      · subst heq
        have hb : (nm == nm) = true := by rw [bq]; simp
        by_cases hem : nm.toList = []
        · have hie : nm.toList.isEmpty = true := by rw [hem]; rfl
          go_wp2_with fail
          go_round
          case rel =>
            refine ⟨k + 1, by omega, by go_num, Lib.hid (fun j f h1 h2 hf => ?_)⟩
            rcases Nat.lt_or_ge j k with h | h
            · exact HN.out j f h1 h hf
            · obtain rfl : j = k := by omega
              rintro ⟨_, hne⟩
              refine hne ?_
              rw [ByteArray.toList_eq] at hem
              cases nm with | mk d => cases d; simp at hem; rw [hem]
          case measure => simp [intOf]; omega
        · have hie : nm.toList.isEmpty = false := by simpa using hem
          go_wp2_with fail
          go_ret
          refine ⟨k, rfl, .inr ⟨hk1, ?_, _, HGET.out, HNM.out⟩, rfl⟩
          rintro rfl
          exact hem (by rw [ByteArray.toList_eq])
      · have hb : ¬ nm.toList = s.toList := fun h => heq (toList_inj h)
        go_wp2_with fail
        go_round
        case rel =>
          refine ⟨k + 1, by omega, by go_num, Lib.hid (fun j f h1 h2 hf => ?_)⟩
          rcases Nat.lt_or_ge j k with h | h
          · exact HN.out j f h1 h hf
          · obtain rfl : j = k := by omega
            rw [HGET.out] at hf
            obtain rfl := Option.some.inj hf
            rintro ⟨h1, _⟩
            exact heq (HNM.out ▸ h1)
        case measure => simp [intOf]; omega
    · go_wp2_with fail
      go_ret
      refine ⟨0, rfl, .inl ⟨rfl, fun j f h1 hf => HN.out j f h1 ?_ hf⟩, rfl⟩
      have := (List.getElem?_eq_some_iff.1 hf).1
      omega
end Go.Proofs.YtcdmdkgiabfbeaaGreatDoor

/-
  The document's store: what it takes up; a file more; make.
-/
namespace Go.Proofs.YtcdmdkgiabfbeaaGreatDoor
open Go.RowKit

/-- What the document's store takes up. -/
def RFP (rb : Nat) (r : RG) (b : Nat) : Prop := b = rb ∨ r.fv.ownBlock = some b ∨ r.ov.ownBlock = some b ∨ r.xv.ownBlock = some b ∨ ∃ f ∈ r.F, f.bv.ownBlock = some b

theorem RRep.keep {m m' : Mem} {rb : Nat} {r : RG} (h : RRep m rb r) (k : ∀ b o, RFP rb r b → m b = some o → m' b = some o) : RRep m' rb r :=
  { h with
    store := k _ _ (.inl rfl) h.store
    files := h.files.keep fun b o hb hm => k b o (.inr (.inl hb)) hm
    bytes := fun f hf => (h.bytes f hf).keep fun b o hb hm => k b o (.inr (.inr (.inr (.inr ⟨f, hf, hb⟩)))) hm
    opens := h.opens.keep fun b o hb hm => k b o (.inr (.inr (.inl hb))) hm
    fails := Row.keep h.fails fun b o hb hm => k b o (.inr (.inr (.inr (.inl hb)))) hm }

theorem RRep.known {m : Mem} {rb : Nat} {r : RG} (h : RRep m rb r) {b : Nat} (hb : RFP rb r b) : ∃ o, m b = some o := by
  rcases hb with rfl | hb | hb | hb | ⟨f, hf, hb⟩
  · exact ⟨_, h.store⟩
  · obtain ⟨_, _, x⟩ := h.files.ty hb; exact ⟨_, x⟩
  · obtain ⟨_, _, x⟩ := h.opens.ty hb; exact ⟨_, x⟩
  · obtain ⟨_, _, x⟩ := Row.ty h.fails hb; exact ⟨_, x⟩
  · obtain ⟨_, _, x⟩ := (h.bytes f hf).ty hb; exact ⟨_, x⟩
theorem RRep.unknown {m : Mem} {rb : Nat} {r : RG} (h : RRep m rb r) {b : Nat} (hb : m b = none) : ¬ RFP rb r b := fun hp => by
  obtain ⟨o, ho⟩ := h.known hp
  rw [hb] at ho; cases ho

/-- A block of another type is none of a row's. -/
theorem Row.notOwn {m : Mem} {v : Value} {e : TypeId} {k n : Nat} {xs : List Value} (h : Row m v e k n xs) {b : Nat} {c : Array Value} {e' : TypeId} {fz : Nat × Nat} (hb : m b = some (.cells c e' fz)) (he : e' ≠ e) : v.ownBlock ≠ some b := fun hv => by
  obtain ⟨cur, fz', hc⟩ := h.ty hv
  rw [hb] at hc
  simp only [Option.some.injEq, Obj.cells.injEq] at hc
  exact he hc.2.1

/-- A file more. -/
theorem RRep.push {m m2 : Mem} {rb : Nat} {r : RG} (h : RRep m rb r) (f : RF) (v' : Value) (gr : Grows m m2 r.fv v') (row : Row m2 v' 100 2 (r.F.length + 1) (r.F.flatMap rfCells ++ rfCells f))
    (hb : Row m f.bv 5 1 f.bs.length (f.bs.map byteV)) (hsep : ∀ d ∈ r.F, ∀ b, d.bv.ownBlock = some b → f.bv.ownBlock ≠ some b) (hne : f.name ≠ ⟨#[]⟩) (hnm : isNameB f.name = true) (hnew : ∀ d ∈ r.F, d.name ≠ f.name)
    (hbl : f.bs.length ≤ 262144) (hl : r.F.length + 1 ≤ 101 + r.n) :
    RRep (m2.set rb (rstoreObj { r with fv := v', F := r.F ++ [f] })) rb { r with fv := v', F := r.F ++ [f] } := by
  have hst := h.store
  have k : ∀ {b : Nat} {o : Obj}, m b = some o → r.fv.ownBlock ≠ some b → b ≠ rb → (m2.set rb (rstoreObj { r with fv := v', F := r.F ++ [f] })) b = some o := fun h1 h2 h3 => by
    rw [Mem.set_ne _ _ h3]; exact gr.keep h1 h2
  have kt : ∀ {v : Value} {e : TypeId} {q n : Nat} {xs : List Value}, Row m v e q n xs → e ≠ 100 → e ≠ 58 → Row (m2.set rb (rstoreObj { r with fv := v', F := r.F ++ [f] })) v e q n xs := fun hr he1 he2 =>
    hr.keep fun b o hb hm => by
      obtain ⟨cur, fz, hc⟩ := hr.ty hb
      refine k hm (h.files.notOwn (e' := _) hc he1) ?_
      rintro rfl
      rw [hst] at hc
      simp only [rstoreObj, Option.some.injEq, Obj.cells.injEq] at hc
      exact he2 hc.2.1.symm
  have hv' : v'.ownBlock ≠ some rb := fun hv => by
    rcases gr with ⟨_, h3⟩ | ⟨gb, o, h3, _, h4⟩
    · rw [h3] at hv
      exact h.files.notOwn (e' := 58) hst (by decide) hv
    · rw [hv] at h3
      obtain rfl := Option.some.inj h3
      rcases h4 with h4 | h4
      · exact h.files.notOwn (e' := 58) hst (by decide) h4
      · rw [hst] at h4; cases h4
  exact { h with
    store := Mem.set_same _ _ _
    files := by
      show Row _ v' _ 2 (r.F ++ [f]).length ((r.F ++ [f]).flatMap rfCells)
      rw [List.length_append, List.flatMap_append]
      have := row.set_other (rstoreObj { r with fv := v', F := r.F ++ [f] }) hv'
      simpa using this
    bytes := fun d hd => by
      rcases List.mem_append.1 hd with hd | hd
      · exact kt (h.bytes d hd) (by decide) (by decide)
      · obtain rfl := List.mem_singleton.1 hd
        exact kt hb (by decide) (by decide)
    sep := List.pairwise_append.2 ⟨h.sep, by simp, fun d hd e he b h1 => by obtain rfl := List.mem_singleton.1 he; exact hsep d hd b h1⟩
    opens := kt h.opens (by decide) (by decide)
    fails := kt h.fails (by decide) (by decide)
    head := by
      obtain ⟨d, F', h1, h2⟩ := h.head
      exact ⟨d, F' ++ [f], by show r.F ++ [f] = _; rw [h1]; rfl, h2⟩
    flen := by show (r.F ++ [f]).length ≤ _; rw [List.length_append]; simpa using hl
    names := by
      show ((r.F ++ [f]).filter _).Pairwise _
      rw [List.filter_append]
      refine List.pairwise_append.2 ⟨h.names, ?_, fun d hd e he => ?_⟩
      · rw [List.filter_cons]; split <;> simp
      · have he' := (List.mem_filter.1 he).1
        obtain rfl := List.mem_singleton.1 he'
        exact hnew d (List.mem_filter.1 hd).1
    named := fun d hd hn => by
      rcases List.mem_append.1 hd with hd | hd
      · exact h.named d hd hn
      · obtain rfl := List.mem_singleton.1 hd; exact hnm
    bsz := fun d hd => by
      rcases List.mem_append.1 hd with hd | hd
      · exact h.bsz d hd
      · obtain rfl := List.mem_singleton.1 hd; exact hbl
    ofile := fun o ho => by
      rcases h.ofile o ho with h1 | ⟨d, h1, h2⟩
      · exact .inl h1
      · exact .inr ⟨d, by show (r.F ++ [f])[o.file]? = _; rw [List.getElem?_append_left ((List.getElem?_eq_some_iff.1 h1).1)]; exact h1, h2⟩ }

/-- The store's own cells. -/
theorem RRep.restore {m : Mem} {rb : Nat} {r : RG} (h : RRep m rb r) (xv : Value) (X : List Fail3) (n : Nat) (go : Fail3) (hf : Fails m xv X) (hx : X.length ≤ 1000) (hn : r.n ≤ n) :
    RRep (m.set rb (rstoreObj { r with xv := xv, X := X, n := n, go := go })) rb { r with xv := xv, X := X, n := n, go := go } := by
  have kt : ∀ {v : Value} {e : TypeId} {q k : Nat} {xs : List Value}, Row m v e q k xs → e ≠ 58 → Row (m.set rb (rstoreObj { r with xv := xv, X := X, n := n, go := go })) v e q k xs := fun hr he =>
    hr.set_other _ (hr.notOwn (e' := 58) h.store (Ne.symm he))
  exact { h with
    store := Mem.set_same _ _ _
    files := kt h.files (by decide)
    bytes := fun f hf => kt (h.bytes f hf) (by decide)
    opens := kt h.opens (by decide)
    fails := kt hf (by decide)
    xlen := hx
    flen := Nat.le_trans h.flen (Nat.add_le_add_left hn _) }

theorem RFP_push {m m2 : Mem} {rb : Nat} {r : RG} {f : RF} {v' : Value} (gr : Grows m m2 r.fv v') {b : Nat} (h : RFP rb { r with fv := v', F := r.F ++ [f] } b) : RFP rb r b ∨ m b = none ∨ f.bv.ownBlock = some b := by
  rcases h with h | h | h | h | ⟨d, hd, h⟩
  · exact .inl (.inl h)
  · rcases gr with ⟨_, h3⟩ | ⟨gb, o, h3, _, h4⟩
    · exact .inl (.inr (.inl (by rw [← h3]; exact h)))
    · rw [show v'.ownBlock = some b from h] at h3
      obtain rfl := Option.some.inj h3
      rcases h4 with h4 | h4
      · exact .inl (.inr (.inl h4))
      · exact .inr (.inl h4)
  · exact .inl (.inr (.inr (.inl h)))
  · exact .inl (.inr (.inr (.inr (.inl h))))
  · rcases List.mem_append.1 hd with hd | hd
    · exact .inl (.inr (.inr (.inr (.inr ⟨d, hd, h⟩))))
    · obtain rfl := List.mem_singleton.1 hd; exact .inr (.inr h)

theorem madeCells_list (z : List Value) (n : Nat) : (madeCells z.toArray (n * z.length)).toList = (List.replicate n z).flatten := by
  apply List.ext_getElem?
  intro j
  unfold madeCells
  simp only [Array.toList_map, Array.toList_range, List.getElem?_map]
  by_cases hj : j < n * z.length
  · have hz : 0 < z.length := Nat.pos_of_ne_zero fun h => by rw [h] at hj; simp at hj
    rw [List.getElem?_range hj]
    have hm := Nat.mod_lt j hz
    simp only [Option.map_some, List.size_toArray]
    have hfl : ∀ (n j : Nat), j < n * z.length → (List.replicate n z).flatten[j]? = z[j % z.length]? := by
      intro n
      induction n with
      | zero => intro j h; simp at h
      | succ n ih =>
        intro j h
        rw [List.replicate_succ, List.flatten_cons]
        by_cases hjz : j < z.length
        · rw [List.getElem?_append_left hjz, Nat.mod_eq_of_lt hjz]
        · rw [List.getElem?_append_right (by omega), ih _ (by rw [Nat.add_mul] at h; omega)]
          rw [← Nat.mod_eq_sub_mod (by omega)]
    rw [hfl n j hj, List.getElem?_eq_getElem hm]
    simp [hm]
  · have hl : (List.replicate n z).flatten.length = n * z.length := by simp
    rw [List.getElem?_eq_none (by simpa using hj), List.getElem?_eq_none (by omega)]
    rfl

/-- 'make([]T, n)'. -/
theorem run_make_row (t e : TypeId) (i : TypeInfo) (z : Value) (zc : List Value) (bytes : Nat) (ht : Tryz.prog.underlying t = some (.slice e)) (hi : Tryz.prog.info? e = some i) (hz : i.zero = some z)
    (hsize : i.size = zc.length) (hby : i.bytes = bytes) (hzc : z.cells = zc.toArray) (w : World) (m : Mem) (hm : Has w m) (n : Nat) (hb : bytes * n ≤ 140737488355328) (hn : n ≤ 140737488355328) :
    ∃ w' m', (Instr.makeSlice t (.int .i64 (n : Int)) (.int .i64 (n : Int))).run Tryz.prog w = .ok (.slice (some ⟨w.heap.size, 0, none⟩) n n) w' ∧ Env w w' ∧ Has w' m' ∧ m.le m' ∧
      Row m' (.slice (some ⟨w.heap.size, 0, none⟩) n n) e zc.length n (List.replicate n zc).flatten ∧ m w.heap.size = none := by
  have hbn : (i.bytes : Int) * (n : Int) ≤ 281474976710656 := by
    have h1 : ((bytes * n : Nat) : Int) ≤ 140737488355328 := by omega
    rw [Int.natCast_mul] at h1
    rw [hby]; omega
  have hr := run_make w t e i z ht hi hz .i64 .i64 n n (by omega) (Int.le_refl _) hbn (by omega)
  simp only [Int.toNat_natCast] at hr
  have hfr := hm.fresh (Nat.le_refl w.heap.size)
  have hlen : (List.replicate n zc).flatten.length = n * zc.length := by simp
  refine ⟨_, _, hr, (Env.refl w).alloc _, hm.alloc _, Mem.le_set _ _ hfr, ⟨hlen, .inr ⟨w.heap.size, n, _, _, rfl, Mem.set_same _ _ _, Thaw.zero _, Nat.le_refl _, by unfold maxLen; omega, by rw [size_madeCells, hsize]; exact Nat.le_refl _, ?_⟩⟩, hfr⟩
  rw [hzc, hsize, madeCells_list]
  exact List.take_of_length_le (Nat.le_of_eq hlen)
end Go.Proofs.YtcdmdkgiabfbeaaGreatDoor
