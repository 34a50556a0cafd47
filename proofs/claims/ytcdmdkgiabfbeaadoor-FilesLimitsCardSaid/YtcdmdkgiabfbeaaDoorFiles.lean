/-
  Files: all files, by rising names.
-/
import Derived.Test.YtcdmdkgiabfbeaaDoorSortKeys
import Derived.Test.YtcdmdkgiabfbeaaDoorOwn
namespace Go.Proofs.YtcdmdkgiabfbeaaDoor
open Go.RowKit

theorem mem_take_succ {α : Type} {P : α → Prop} {l : List α} {k : Nat} (hk : k < l.length) (h : ∀ x ∈ l.take k, P x) (h1 : P l[k]) : ∀ x ∈ l.take (k + 1), P x := by
  intro x hx
  rw [List.take_succ_eq_append_getElem hk] at hx
  rcases List.mem_append.1 hx with hx | hx
  · exact h x hx
  · rw [List.mem_singleton.1 hx]; exact h1

/-- All files, as Files lists them. -/
def filesOf (L : List Ent) : List File2 := (namesB L).map fun x => (⟨x.toArray⟩, ⟨(((getE L ⟨x.toArray⟩).map (·.bs)).getD []).toArray⟩)

theorem fileCells_len (l : List File2) : (l.flatMap fileCells).length = l.length * 2 := by
  induction l with
  | nil => rfl
  | cons f l ih => rw [List.flatMap_cons, List.length_append, ih, List.length_cons]; simp [fileCells]; omega

theorem namesB_mem {L : List Ent} {x : List UInt8} (h : x ∈ namesB L) : ∃ e ∈ L, (⟨x.toArray⟩ : ByteArray) = e.name := by
  have h1 := (List.mergeSort_perm (L.map fun e => e.name.data.toList) leB).mem_iff.1 h
  obtain ⟨e, he, rfl⟩ := List.mem_map.1 h1
  exact ⟨e, he, by cases e.name; simp⟩
theorem namesB_length (L : List Ent) : (namesB L).length = L.length := by unfold namesB; rw [List.length_mergeSort, List.length_map]

theorem infoFile : (Tryd.prog.info? 29).map (fun i => (i.zero, i.size, i.bytes)) = some (some (.agg #[.string ⟨#[]⟩, .string ⟨#[]⟩]), 2, 32) := by kernel_rfl

def FilesR (m : Mem) (fl : List File2) (v : Value) (m' : Mem) : Prop := Row m' v 29 2 fl.length (fl.flatMap fileCells) ∧ ∀ b, v.ownBlock = some b → m b = none

set_option maxHeartbeats 4000000 in
set_option maxRecDepth 100000 in
theorem files_any (sb : Nat) (g : G) (w : World) (m : Mem) (hm : Has w m) (hr : SRep m sb g) :
    Calls Tryd.prog 17 #[.pointer (some ⟨sb, 0, none⟩)] w (Post w m (FilesR m (filesOf g.L))) := by
  have c0 : w.cell? ⟨sb, 0, none⟩ = some (.map (some g.mb)) := by rw [hm.cell hr.store]; rfl
  have H := Lib.hid hm
  have HR := Lib.hid hr
  clear hm hr
  go_enter Tryd.func17, Tryd.ntmps17
  go_wp2_with fail
  refine (keys_call (some g.mb) w).mono ?_
  rintro e w1 ⟨rfl, rfl⟩
  go_wp2_with fail
  refine (sorted_any w H.out HR.out).mono ?_
  rintro e w2 ⟨v, m2, rfl, l2, h2, n2, hv⟩
  obtain ⟨va, vc, rfl, _⟩ := hv.lenV
  have L2 := Lib.hid l2
  have H2 := Lib.hid h2
  have N2 := Lib.hid n2
  have HV := Lib.hid hv
  have hnl := namesB_length g.L
  have hll := HR.out.llen
  clear l2 h2 n2 hv c0
  go_wp2_with fail
  go_loopw [3, 15] (fun v i wr => ∃ (k : Nat) (xa : Option Addr) (xc : Nat), k ≤ (namesB g.L).length ∧ i = .int .i64 k ∧ v = .slice xa k xc ∧ Hid (∃ mr, m2.le mr ∧ Has wr mr ∧ Env w wr ∧ Row mr (.slice xa k xc) 29 2 k (((filesOf g.L).take k).flatMap fileCells) ∧ ∀ b, (Value.slice xa k xc).ownBlock = some b → m2 b = none)) (fun _ i _ => (namesB g.L).length - (intOf i).toNat)
  case atStart => exact ⟨0, none, 0, Nat.zero_le _, rfl, rfl, Lib.hid ⟨m2, Mem.le_refl _, H2.out, N2.out, Row.nil _ _ _, fun b hb => by cases hb⟩⟩
  case round =>
    obtain ⟨k, xa, xc, hk, rfl, rfl, hX⟩ := hrel
    obtain ⟨mr, lr, hwr, nr, row, own⟩ := hX.out
    by_cases hlt : k < (namesB g.L).length
    · obtain ⟨vb, rfl⟩ : ∃ vb, va = some ⟨vb, 0, none⟩ := by
        obtain ⟨_, ⟨h, h0⟩ | ⟨gg, cap, cur, fz, h, _⟩⟩ := HV.out
        · omega
        · simp only [Value.slice.injEq] at h; exact ⟨gg, h.1⟩
      have e0 : wr.cell? ⟨vb, k, none⟩ = some (encStr (namesB g.L)[k]) := by
        rw [(HV.out.le lr).cell hwr (by omega)]
        simp [hlt]
      obtain ⟨e, he, hen⟩ := namesB_mem (List.getElem_mem hlt)
      have hr := HR.out.le (Mem.le_trans L2.out lr)
      have hge := getE_of hr.names he
      have hfk : (filesOf g.L)[k]? = some (e.name, ⟨e.bs.toArray⟩) := by
        unfold filesOf
        rw [List.getElem?_map, List.getElem?_eq_getElem hlt]
        simp only [Option.map_some, hen, hge, Option.getD_some]
      have hTS : (filesOf g.L).take (k + 1) = (filesOf g.L).take k ++ [(e.name, ⟨e.bs.toArray⟩)] := by
        rw [List.take_add_one, hfk]; rfl
      have e0' : wr.cell? ⟨vb, k, none⟩ = some (.string e.name) := by rw [e0, ← hen]
      have e1 : wr.cell? ⟨sb, 0, none⟩ = some (.map (some g.mb)) := by rw [hwr.cell hr.store]; rfl
      have e2 : wr.heap[g.mb]? = some (.map (g.L.map Ent.entry).toArray g.clock) := hwr _ _ hr.map
      have hlk : ∀ w0 : World, w0.heap[g.mb]? = some (.map (g.L.map Ent.entry).toArray g.clock) → (Instr.lookup 51 (.map (some g.mb)) (.string e.name) false).run Tryd.prog w0 = .ok (.pointer (some ⟨e.fb, 0, none⟩)) w0 := fun w0 h => by
        rw [run_lookupF g.mb g.clock g.L _ w0 h, lookV_some hge]
      obtain ⟨ba, bc, hbv, _⟩ := (hr.row e he).lenV
      have e3 : wr.cell? ⟨e.fb, 0, none⟩ = some (.slice ba e.bs.length bc) := by rw [hwr.cell (hr.file e he), ← hbv]; rfl
      have CV : (convert 33 9 (.slice ba e.bs.length bc)).run Tryd.prog wr = .ok (.string ⟨e.bs.toArray⟩) wr := by
        rw [← hbv]; exact conv_back (row_wind (hr.row e he)) wr hwr
      have hfr := hwr.fresh (Nat.le_refl _)
      have h5 := hwr.alloc (.cells #[.string e.name, .string ⟨e.bs.toArray⟩] 29)
      have l5 := Mem.le_set mr (.cells #[.string e.name, .string ⟨e.bs.toArray⟩] 29) hfr
      obtain ⟨i0, hi, hz0, hz1, hz2⟩ := info_parts infoFile
      obtain ⟨v', w6, m6, hrun, n6, h6, row6, gr6⟩ := run_append_row (P := Tryd.prog) 30 30 29 i0 _ 2 32 Tryd.underlying30 hi hz0 hz1 hz2 rfl (by decide)
        h5 _ k _ (row.le l5) _ 0 1 1 [.string e.name, .string ⟨e.bs.toArray⟩] rfl (Cells.whole (Mem.set_same _ _ _) rfl) (by simp [Value.oneCell']) (by decide) (by omega) (by omega)
      have row6' : Row m6 v' 29 2 (k + 1) (((filesOf g.L).take (k + 1)).flatMap fileCells) := by
        rw [hTS, List.flatMap_append]; simpa [fileCells] using row6
      obtain ⟨xa', xc', rfl, _⟩ := row6'.lenV
      have lm : m2.le m6 := fun b o hb => gr6.keep (l5 _ _ (lr _ _ hb)) (fun hv => by
        rw [own b hv] at hb; cases hb)
      have own6 : ∀ b, (Value.slice xa' (k + 1) xc').ownBlock = some b → m2 b = none := fun b hb => by
        rcases gr6 with ⟨_, h2⟩ | ⟨gb, o, h2, _, h4⟩
        · exact own b (by rw [← h2]; exact hb)
        · rw [hb] at h2
          obtain rfl := Option.some.inj h2
          rcases h4 with h4 | h4
          · exact own b h4
          · exact Mem.none_le lr (Mem.none_le l5 h4)
      have LM := Lib.hid lm
      have OWN6 := Lib.hid own6
      have ROW6 := Lib.hid row6'
      have H6 := Lib.hid h6
      have N6 := Lib.hid ((nr.alloc (.cells #[.string e.name, .string ⟨e.bs.toArray⟩] 29)).trans n6)
      clear lr hwr nr row own e0 he hen hr hge hfk hTS hfr h5 l5 hi hz0 hz1 hz2 n6 h6 row6 gr6 row6' lm own6 hX hbv
      go_wp2_with (at_builtin; refine wpList_b2 rfl .append Builtin.append_ (fun _ _ _ _ => rfl) _ _ _ _ rfl rfl rfl hrun ?_)
      go_roundw
      case rel => exact ⟨k + 1, xa', xc', hlt, by go_num, rfl, Lib.hid ⟨m6, LM.out, H6.out, N6.out, ROW6.out, OWN6.out⟩⟩
      case measure => simp [intOf]; omega
    · have hkn : k = (namesB g.L).length := by omega
      have hfl : (filesOf g.L).length = k := by unfold filesOf; rw [List.length_map]; omega
      rw [List.take_of_length_le (by omega)] at row
      have LM := Lib.hid (Mem.le_trans L2.out lr)
      have OWN : Hid (∀ b, (Value.slice xa k xc).ownBlock = some b → m b = none) := Lib.hid (fun b hb => Mem.none_le L2.out (own b hb))
      have ROW := Lib.hid row
      have HWR := Lib.hid hwr
      have NR := Lib.hid nr
      clear lr own row hwr nr hX
      go_wp2_with fail
      go_ret
      exact Post.mk mr LM.out HWR.out NR.out ⟨by rw [hfl]; exact ROW.out, OWN.out⟩
end Go.Proofs.YtcdmdkgiabfbeaaDoor
