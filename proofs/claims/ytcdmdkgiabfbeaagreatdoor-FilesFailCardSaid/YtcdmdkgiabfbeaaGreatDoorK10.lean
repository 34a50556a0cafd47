/-
  Create. (printed by create_gen.py)
-/
import Derived.Test.YtcdmdkgiabfbeaaGreatDoorK09
import Derived.Test.YtcdmdkgiabfbeaaGreatDoorK08
namespace Go.Proofs.YtcdmdkgiabfbeaaGreatDoor
open Go.RowKit

namespace A
def fullC (a : A) (s : ByteArray) : Bool := a.free.isNone || ((a.look s).isNone && decide (100 ≤ a.count))
def createX (a : A) (s : ByteArray) (mode : Int) : Int :=
  if a.now.2.1 ≠ 0 then a.now.2.1 else if isNameB s = false then -38 else if modeB mode = false then -20 else if a.fullC s then -8 else 0
def make (a : A) (s : ByteArray) : A := { a with look := fun t => if t = s then some [] else a.look t, count := if (a.look s).isNone then a.count + 1 else a.count }
def createF (a : A) (s : ByteArray) (mode : Int) : A × Int × Int :=
  if a.createX s mode ≠ 0 then (a.tick, a.createX s mode, 0) else ((a.tick.make s).setH (a.free.getD 0) (some (s, mode, 0)), 0, (a.free.getD 0 : Int) + 1)
end A

theorem firstOf_create (a : A) (s : ByteArray) (mode : Int) (c1 c2 c3 : Value) :
    firstOf a.now.2.1 [(c1, -38, !isNameB s), (c2, -20, !modeB mode), (c3, -8, a.fullC s)] = a.createX s mode := by
  unfold A.createX
  by_cases h0 : a.now.2.1 = 0
  · cases isNameB s <;> cases modeB mode <;> cases a.fullC s <;> simp [firstOf, h0]
  · simp [firstOf, h0]
theorem createX_zero {a : A} {s : ByteArray} {mode : Int} (h : a.createX s mode = 0) : a.now.2.1 = 0 ∧ isNameB s = true ∧ modeB mode = true ∧ a.fullC s = false := by
  unfold A.createX at h
  by_cases h0 : a.now.2.1 = 0
  · rw [if_neg (fun c => c h0)] at h
    cases h1 : isNameB s <;> cases h2 : modeB mode <;> cases h3 : a.fullC s <;> simp_all
  · rw [if_pos h0] at h; exact absurd h h0

theorem abs_fullC {m : Mem} {sb : Nat} {g : G} (r : SRep m sb g) (s : ByteArray) : g.abs.fullC s = cfullB g s := by
  unfold A.fullC cfullB
  have h1 : g.abs.free.isNone = fullB g.O := by
    rw [abs_free r]
    cases fullB g.O <;> rfl
  have h2 : (g.abs.look s).isNone = (getE g.L s).isNone := by
    show ((getE g.L s).map (·.bs)).isNone = _
    cases getE g.L s <;> rfl
  have h3 : decide (100 ≤ g.abs.count) = decide (100 ≤ (g.L.length : Int)) := by
    show decide (100 ≤ g.L.length) = _
    rw [Bool.eq_iff_iff]; simp; omega
  rw [h1, h2, h3]

theorem getE_append (L : List Ent) (e : Ent) (s : ByteArray) : getE (L ++ [e]) s = (getE L s).or (if s = e.name then some e else none) := by
  unfold getE
  rw [List.find?_append]
  congr 1
  rw [List.find?_cons]
  by_cases h : s = e.name <;> simp [h]
theorem abs_addL {g : G} {e : Ent} (h : getE g.L e.name = none) (c : Nat) (hb : e.bs = []) : ({ g with L := g.L ++ [e], clock := c } : G).abs = g.abs.make e.name := by
  have hl : (g.abs.look e.name).isNone = true := by
    show ((getE g.L e.name).map (·.bs)).isNone = true
    rw [h]; rfl
  unfold A.make
  rw [hl, if_pos rfl]
  simp only [G.abs, A.mk.injEq, and_true]
  refine ⟨?_, by simp⟩
  funext t
  rw [getE_append]
  by_cases ht : t = e.name
  · subst ht; rw [h]; simp [hb]
  · rw [if_neg ht, if_neg ht]; cases getE g.L t <;> rfl
theorem make_there {a : A} {s : ByteArray} (h : (a.look s).isNone = false) : a.make s = a.setF s [] := by
  unfold A.make A.setF
  rw [h]; rfl
theorem make_setF (a : A) (s : ByteArray) : (a.make s).setF s [] = a.make s := by
  unfold A.make A.setF
  simp only [A.mk.injEq, and_true]
  funext t
  split <;> rfl

theorem mapNe (b : Nat) (w : World) : (binOp .eql 68 (.map (some b)) (.map none)).run Tryz.prog w = .ok (.bool false) w := by kernel_rfl
theorem ptrNe (a : Addr) (w : World) : (binOp .eql 67 (.pointer (some a)) (.pointer none)).run Tryz.prog w = .ok (.bool false) w := by kernel_rfl
theorem ptrNil (w : World) : (binOp .eql 67 (.pointer none) (.pointer none)).run Tryz.prog w = .ok (.bool true) w := by kernel_rfl

set_option maxHeartbeats 8000000 in
set_option maxRecDepth 100000 in
theorem create_any (sb : Nat) (s : ByteArray) (mode : Int) (g : G) (w : World) (m : Mem) (hm : Has w m) (hr : SRep m sb g) (hG : GlobOk m) (h0 : ¬ FP sb g 0) (hn : g.n ≤ 999999) :
    Calls Tryz.prog 8 #[.pointer (some ⟨sb, 0, none⟩), .string s, .int .i64 mode] w
      (AnsB w fun v m2 x => OpR m sb g (fun _ => False) (g.abs.createF s mode) (fun _ i => v = .int .i64 i) m2 x) := by
  have hfr := hm.fresh (Nat.le_refl w.heap.size)
  have h1 := hm.alloc (.cells #[.pointer (some ⟨sb, 0, none⟩)] 25)
  have l1 := Mem.le_set m (.cells #[.pointer (some ⟨sb, 0, none⟩)] 25) hfr
  have hfr2 := h1.fresh (Nat.le_refl _)
  have h2 := h1.alloc (.cells #[.string s] 9)
  have l2 := Mem.le_set _ (.cells #[.string s] 9) hfr2
  have hsz : (w.alloc (.cells #[.pointer (some ⟨sb, 0, none⟩)] 25)).heap.size = w.heap.size + 1 := by simp
  rw [hsz] at h2 l2 hfr2
  have bx := l2 _ _ (Mem.set_same m w.heap.size (.cells #[.pointer (some ⟨sb, 0, none⟩)] 25))
  have nx := Mem.set_same (m.set w.heap.size (.cells #[.pointer (some ⟨sb, 0, none⟩)] 25)) (w.heap.size + 1) (.cells #[.string s] 9)
  have hnsb : sb ≠ w.heap.size := Ne.symm (Mem.ne_of_none hfr hr.store)
  have hnsb2 : sb ≠ w.heap.size + 1 := Ne.symm (Mem.ne_of_none hfr2 (l1 _ _ hr.store))
  have l12 := Mem.le_trans l1 l2
  have c0 : ((w.alloc (.cells #[.pointer (some ⟨sb, 0, none⟩)] 25)).alloc (.cells #[.string s] 9)).cell? ⟨w.heap.size, 0, none⟩ = some (.pointer (some ⟨sb, 0, none⟩)) := by rw [h2.cell bx]; rfl
  obtain ⟨ma, hma⟩ : ∃ ma, (m.set w.heap.size (.cells #[.pointer (some ⟨sb, 0, none⟩)] 25)).set (w.heap.size + 1) (.cells #[.string s] 9) = ma := ⟨_, rfl⟩
  rw [hma] at h2 l12 bx nx
  have BG := begin_g sb g _ _ h2 (hr.le l12) hn
  have frS := Fr.tick (Mem.le_refl (ma.set sb (storeObj g.tick))) (fun _ => False)
  have hGs := frS.glob (by rintro (x | x); exact h0 x; exact x) (hG.le l12)
  have HBG := Lib.hid BG
  have HR1 := Lib.hid (hr.le l12).count
  have HG1 := Lib.hid hGs
  have L1 := Lib.hid l12
  have FRS := Lib.hid frS
  have BX := Lib.hid (show (ma.set sb (storeObj g.tick)) w.heap.size = some (.cells #[.pointer (some ⟨sb, 0, none⟩)] 25 (0, 0)) from by rw [Mem.set_ne _ _ (Ne.symm hnsb)]; exact bx)
  have NX := Lib.hid (show (ma.set sb (storeObj g.tick)) (w.heap.size + 1) = some (.cells #[.string s] 9 (0, 0)) from by rw [Mem.set_ne _ _ (Ne.symm hnsb2)]; exact nx)
  have NA := Lib.hid (((Env.refl w).alloc (.cells #[.pointer (some ⟨sb, 0, none⟩)] 25)).alloc (.cells #[.string s] 9))
  have HFN := Lib.hid (Mem.none_set hfr2)
  have HFP := Lib.hid hfr
  clear hm hr hG h0 hn h1 h2 l1 l2 l12 bx nx BG hGs hnsb hnsb2 frS hfr2 hfr hma hsz
  go_enter Tryz.func8, Tryz.ntmps8
  go_wp2_with fail
  clear c0
  generalize w.heap.size = pb at *
  refine HBG.out.mono ?_
  rintro e w2 ⟨v, m2, rfl, l2, h2, n2, ev, rfl, hev⟩
  have hsz := h2.fresh (Nat.le_refl w2.heap.size)
  have H2 := Lib.hid (h2.alloc (.cells #[.int .i64 g.now.1, .int .i64 g.now.2.1, .int .i64 g.now.2.2] 47))
  have l3 := Mem.le_set m2 (.cells #[.int .i64 g.now.1, .int .i64 g.now.2.1, .int .i64 g.now.2.2] 47) hsz
  have N2 := Lib.hid ((NA.out.trans n2).alloc (.cells #[.int .i64 g.now.1, .int .i64 g.now.2.1, .int .i64 g.now.2.2] 47))
  have HEV := Lib.hid (hev.le l3)
  have LL := Lib.hid (Mem.le_trans l2 l3)
  have c0 : w2.cell? ⟨pb, 0, none⟩ = some (.pointer (some ⟨sb, 0, none⟩)) := by rw [h2.cell (l2 _ _ BX.out)]; rfl
  have clt : pb < w2.heap.size := h2.lt (l2 _ _ BX.out)
  have c1 : w2.cell? ⟨pb + 1, 0, none⟩ = some (.string s) := by rw [h2.cell (l2 _ _ NX.out)]; rfl
  have clt1 : pb + 1 < w2.heap.size := h2.lt (l2 _ _ NX.out)
  clear l2 h2 n2 hev l3 hsz
  simp only [failV]
  go_wp2_with fail
  obtain ⟨w3, hw3⟩ : ∃ w3, w2.alloc (.cells #[.int .i64 g.now.1, .int .i64 g.now.2.1, .int .i64 g.now.2.2] 47) = w3 := ⟨_, rfl⟩
  rw [hw3] at H2 N2
  try rw [hw3]
  clear hw3
  obtain ⟨m3, hm3⟩ : ∃ m3, m2.set w2.heap.size (.cells #[.int .i64 g.now.1, .int .i64 g.now.2.1, .int .i64 g.now.2.2] 47) = m3 := ⟨_, rfl⟩
  rw [hm3] at H2 LL HEV
  clear hm3 c0 clt c1 clt1
  have R3 := Lib.hid (HR1.out.le LL.out)
  have BX3 := Lib.hid (LL.out _ _ BX.out)
  have NX3 := Lib.hid (LL.out _ _ NX.out)
  refine (named_any s _ _ H2.out).mono ?_
  rintro e1 w4 ⟨v1, m4, rfl, l4, h4, n4, hv1⟩
  have H4 := Lib.hid h4
  have N4 := Lib.hid (N2.out.trans n4)
  have L4 := Lib.hid l4
  have C1 := Lib.hid hv1
  clear l4 h4 n4 hv1
  go_wp2_with fail
  refine (moded_any mode _ _ H4.out).mono ?_
  rintro e1 w5 ⟨v2, m5, rfl, l5, h5, n5, hv2⟩
  have H5 := Lib.hid h5
  have N5 := Lib.hid (N4.out.trans n5)
  have L5 := Lib.hid (Mem.le_trans L4.out l5)
  have K1 := Lib.hid (C1.out.le l5)
  have C2 := Lib.hid hv2
  clear l5 h5 n5 hv2 C1
  go_wp2_with fail
  refine (when_any (-8) _ _ (cfullB g s) _ _ H5.out ⟨_, _, rfl, enters_cfull1, fun w1 m1 l h1 => cfull1_any pb (pb + 1) sb g.tick s w1 m1 h1 (R3.out.le (Mem.le_trans L5.out l)) (l _ _ (L5.out _ _ BX3.out)) (l _ _ (L5.out _ _ NX3.out))⟩).mono ?_
  rintro e1 w7 ⟨v4, m7, rfl, l7, h7, n7, hv4⟩
  have H7 := Lib.hid h7
  have N7 := Lib.hid (N5.out.trans n7)
  have L7 := Lib.hid (Mem.le_trans L5.out l7)
  have K1 := Lib.hid (K1.out.le l7)
  have K2 := Lib.hid (C2.out.le l7)
  have K3 := Lib.hid hv4
  clear l7 h7 n7 hv4 C2
  obtain ⟨p1, q1, i1, hc1, _⟩ := K1.out.imp (fun _ h => h)
  obtain ⟨p2, q2, i2, hc2, _⟩ := K2.out.imp (fun _ h => h)
  obtain ⟨p3, q3, i3, hc3, _⟩ := K3.out.imp (fun _ h => h)
  subst hc1
  subst hc2
  subst hc3
  go_wp2_with fail
  have hal := H7.out.alloc (.cells #[.func (.func 78) #[] #[.pointer (some ⟨p1, 0, none⟩), .pointer (some ⟨q1, 0, none⟩)], .func (.func 78) #[] #[.pointer (some ⟨p2, 0, none⟩), .pointer (some ⟨q2, 0, none⟩)], .func (.func 78) #[] #[.pointer (some ⟨p3, 0, none⟩), .pointer (some ⟨q3, 0, none⟩)]] 74)
  have lal := Mem.le_set m7 (.cells #[.func (.func 78) #[] #[.pointer (some ⟨p1, 0, none⟩), .pointer (some ⟨q1, 0, none⟩)], .func (.func 78) #[] #[.pointer (some ⟨p2, 0, none⟩), .pointer (some ⟨q2, 0, none⟩)], .func (.func 78) #[] #[.pointer (some ⟨p3, 0, none⟩), .pointer (some ⟨q3, 0, none⟩)]] 74) (H7.out.fresh (Nat.le_refl _))
  have FA := first_any ev g.now.2.1 w7.heap.size [(.func (.func 78) #[] #[.pointer (some ⟨p1, 0, none⟩), .pointer (some ⟨q1, 0, none⟩)], -38, !isNameB s), (.func (.func 78) #[] #[.pointer (some ⟨p2, 0, none⟩), .pointer (some ⟨q2, 0, none⟩)], -20, !modeB mode), (.func (.func 78) #[] #[.pointer (some ⟨p3, 0, none⟩), .pointer (some ⟨q3, 0, none⟩)], -8, cfullB g s)] _ _ hal ((HEV.out.le L7.out).le lal) (Mem.set_same _ _ _)
    (fun c hc => by
      simp only [List.mem_cons, List.not_mem_nil, or_false] at hc
      rcases hc with rfl | rfl | rfl
      · exact ⟨K1.out.le lal, show (-38 : Int) ≠ 0 by decide⟩
      · exact ⟨K2.out.le lal, show (-20 : Int) ≠ 0 by decide⟩
      · exact ⟨K3.out.le lal, show (-8 : Int) ≠ 0 by decide⟩) (by simp)
  refine FA.mono ?_
  rintro e1 w8 ⟨v8, m8, rfl, l8, h8, n8, hv8⟩
  have hX := firstOf_create g.abs s mode (.func (.func 78) #[] #[.pointer (some ⟨p1, 0, none⟩), .pointer (some ⟨q1, 0, none⟩)]) (.func (.func 78) #[] #[.pointer (some ⟨p2, 0, none⟩), .pointer (some ⟨q2, 0, none⟩)]) (.func (.func 78) #[] #[.pointer (some ⟨p3, 0, none⟩), .pointer (some ⟨q3, 0, none⟩)])
  have hfull : g.abs.fullC s = cfullB g s := abs_fullC R3.out s
  rw [hfull] at hX
  change firstOf g.now.2.1 _ = _ at hX
  rw [hX] at hv8
  have L8 := Lib.hid (Mem.le_trans L7.out (Mem.le_trans lal l8))
  have H8 := Lib.hid h8
  have N8 := Lib.hid ((N7.out.alloc (.cells #[.func (.func 78) #[] #[.pointer (some ⟨p1, 0, none⟩), .pointer (some ⟨q1, 0, none⟩)], .func (.func 78) #[] #[.pointer (some ⟨p2, 0, none⟩), .pointer (some ⟨q2, 0, none⟩)], .func (.func 78) #[] #[.pointer (some ⟨p3, 0, none⟩), .pointer (some ⟨q3, 0, none⟩)]] 74)).trans n8)
  have V8 := Lib.hid hv8
  have s8 : w8.cell? ⟨pb + 1, 0, none⟩ = some (.string s) := by rw [h8.cell (L8.out _ _ NX3.out)]; rfl
  have HFULL := Lib.hid hfull
  clear hal lal FA l8 h8 n8 hv8 hX hfull
  by_cases hx : g.abs.createX s mode = 0
  · obtain rfl : v8 = .nilIface := by
      rcases V8.out with ⟨_, h⟩ | ⟨h, _⟩
      · exact h
      · exact absurd hx h
    have HX := Lib.hid hx
    have r8 := R3.out.le L8.out
    have t0 : w8.cell? ⟨sb, 0, none⟩ = some (.map (some g.mb)) := by rw [H8.out.cell r8.store]; rfl
    have p8 : w8.cell? ⟨pb, 0, none⟩ = some (.pointer (some ⟨sb, 0, none⟩)) := by rw [H8.out.cell (L8.out _ _ BX3.out)]; rfl
    have R8 := Lib.hid r8
    have hmn := mapNe g.mb
    have hlk : ∀ n, (Instr.lookup 68 (.map (some g.mb)) (.string s) false).run Tryz.prog (w8.drewN n) = .ok (lookV g.L s) (w8.drewN n) := fun n => run_lookupF g.mb g.clock g.L s _ (H8.out _ _ r8.map)
    clear hx r8
    cases hge : getE g.L s with
    | some e =>
      rw [lookV_some hge] at hlk
      have HGE := Lib.hid hge
      clear hge
      go_wp2_with fail
      go_quiet (fail)
      go_wp2_with fail
      have HFB : Hid (fullB g.O = false) := Lib.hid (by
        obtain ⟨_, _, _, h4⟩ := createX_zero HX.out
        rw [HFULL.out] at h4
        unfold cfullB at h4
        cases hfu : fullB g.O with
        | false => rfl
        | true => rw [hfu] at h4; simp at h4)
      refine wp_opaque w _ (H8.out.drewN nq) (N8.out.drewN nq) ?_
      intro wa hwa nwa
      obtain ⟨gA, hgA⟩ : ∃ gA, g.tick = gA := ⟨_, rfl⟩
      obtain ⟨mA, hmA⟩ : ∃ mA, m8 = mA := ⟨_, rfl⟩
      have HWA : Hid (Has wa mA) := Lib.hid (by rw [← hmA]; exact hwa)
      have NWA := Lib.hid nwa
      have LBX : Hid (mA pb = some (.cells #[.pointer (some ⟨sb, 0, none⟩)] 25 (0, 0))) := Lib.hid (by rw [← hmA]; exact L8.out _ _ BX3.out)
      have LNX : Hid (mA (pb + 1) = some (.cells #[.string s] 9 (0, 0))) := Lib.hid (by rw [← hmA]; exact L8.out _ _ NX3.out)
      have RA : Hid (SRep mA sb gA) := Lib.hid (by rw [← hmA, ← hgA]; exact R8.out)
      have EA : Hid (e ∈ gA.L) := Lib.hid (by rw [← hgA]; exact getE_mem HGE.out)
      have GE : Hid (getE gA.L s = some e) := Lib.hid (by rw [← hgA]; exact HGE.out)
      have OA : Hid (gA.O = g.O) := Lib.hid (by rw [← hgA]; rfl)
      have FA2 : Hid (Fr ma mA (fun b => FP sb g b ∨ False) (fun b => FP sb gA b ∨ False)) := Lib.hid (by rw [← hmA, ← hgA]; exact FRS.out.le (Mem.le_trans LL.out L8.out))
      have ABS : Hid (gA.abs.setF s [] = g.abs.tick.make s) := Lib.hid (by
        rw [← hgA, make_there]; rfl
        show ((getE g.L s).map (·.bs)).isNone = false
        rw [HGE.out]; rfl)
      clear hwa nwa hgA hmA
      have k0 : wa.cell? ⟨pb, 0, none⟩ = some (.pointer (some ⟨sb, 0, none⟩)) := by rw [HWA.out.cell LBX.out]; rfl
      have k1 : wa.cell? ⟨pb + 1, 0, none⟩ = some (.string s) := by rw [HWA.out.cell LNX.out]; rfl
      have k2 : wa.cell? ⟨sb, 0, none⟩ = some (.map (some gA.mb)) := by rw [HWA.out.cell RA.out.store]; rfl
      have k3 : wa.heap[gA.mb]? = some (.map (gA.L.map Ent.entry).toArray gA.clock) := HWA.out _ _ RA.out.map
      have k4 : wa.cell? ⟨e.fb, 0, none⟩ = some e.bv := by rw [HWA.out.cell (RA.out.file e EA.out)]; rfl
      have k5 : wa.frozen? ⟨e.fb, 0, none⟩ = false := HWA.out.froz (RA.out.file e EA.out)
      have hlk2 : ∀ w0 : World, w0.heap[gA.mb]? = some (.map (gA.L.map Ent.entry).toArray gA.clock) → (Instr.lookup 68 (.map (some gA.mb)) (.string s) false).run Tryz.prog w0 = .ok (.pointer (some ⟨e.fb, 0, none⟩)) w0 := fun w0 h => by
        rw [run_lookupF gA.mb gA.clock gA.L s w0 h, lookV_some GE.out]
      refine wp_region_K 8 (fun w' => w'.cell? ⟨pb, 0, none⟩ = some (.pointer (some ⟨sb, 0, none⟩)) ∧ w'.cell? ⟨pb + 1, 0, none⟩ = some (.string s) ∧ w'.cell? ⟨sb, 0, none⟩ = some (.map (some gA.mb)) ∧ w'.heap[gA.mb]? = some (.map (gA.L.map Ent.entry).toArray gA.clock)) (by kernel_rfl) ?_
      have hS : (fun w' : World => w'.cell? ⟨pb, 0, none⟩ = some (.pointer (some ⟨sb, 0, none⟩)) ∧ w'.cell? ⟨pb + 1, 0, none⟩ = some (.string s) ∧ w'.cell? ⟨sb, 0, none⟩ = some (.map (some gA.mb)) ∧ w'.heap[gA.mb]? = some (.map (gA.L.map Ent.entry).toArray gA.clock)) wa.drew := ⟨k0, k1, k2, k3⟩
      refine wpAnyK_take (i := 0) (v := ?_) rfl (by kernel_rfl) (by kernel_rfl) (by kernel_rfl) (by kernel_rfl) (fun _ _ _ h => h) (Or.inl ⟨by rfl, ?_⟩) hS ?_
      rotate_left
      · intro w0 hS0; obtain ⟨q0, q1, q2, q3⟩ := hS0; go_simp; try with_reducible rfl
      simp only [Act.put, List.setIfInBounds_toArray, List.set_cons_zero, List.set_cons_succ, List.getElem_toArray, List.getElem_cons_succ, List.getElem_cons_zero]
      refine wpAnyK_take (i := 1) (v := ?_) rfl (by kernel_rfl) (by kernel_rfl) (by kernel_rfl) (by kernel_rfl) (fun _ _ _ h => h) (Or.inl ⟨by rfl, ?_⟩) hS ?_
      rotate_left
      · intro w0 hS0; obtain ⟨q0, q1, q2, q3⟩ := hS0; go_simp; try with_reducible rfl
      simp only [Act.put, List.setIfInBounds_toArray, List.set_cons_zero, List.set_cons_succ, List.getElem_toArray, List.getElem_cons_succ, List.getElem_cons_zero]
      refine wpAnyK_take (i := 2) (v := ?_) rfl (by kernel_rfl) (by kernel_rfl) (by kernel_rfl) (by kernel_rfl) (fun _ _ _ h => h) (Or.inl ⟨by rfl, ?_⟩) hS ?_
      rotate_left
      · intro w0 hS0; obtain ⟨q0, q1, q2, q3⟩ := hS0; go_simp; try with_reducible rfl
      simp only [Act.put, List.setIfInBounds_toArray, List.set_cons_zero, List.set_cons_succ, List.getElem_toArray, List.getElem_cons_succ, List.getElem_cons_zero]
      refine wpAnyK_take (i := 3) (v := ?_) rfl (by kernel_rfl) (by kernel_rfl) (by kernel_rfl) (by kernel_rfl) (fun _ _ _ h => h) (Or.inl ⟨by rfl, ?_⟩) hS ?_
      rotate_left
      · intro w0 hS0; obtain ⟨q0, q1, q2, q3⟩ := hS0; go_simp; try with_reducible rfl
      simp only [Act.put, List.setIfInBounds_toArray, List.set_cons_zero, List.set_cons_succ, List.getElem_toArray, List.getElem_cons_succ, List.getElem_cons_zero]
      refine wpAnyK_take (i := 4) (v := ?_) rfl (by kernel_rfl) (by kernel_rfl) (by kernel_rfl) (by kernel_rfl) (fun _ _ _ h => h) (Or.inl ⟨by rfl, ?_⟩) hS ?_
      rotate_left
      · intro w0 hS0; obtain ⟨q0, q1, q2, q3⟩ := hS0; go_simp; try with_reducible rfl
      simp only [Act.put, List.setIfInBounds_toArray, List.set_cons_zero, List.set_cons_succ, List.getElem_toArray, List.getElem_cons_succ, List.getElem_cons_zero]
      refine wpAnyK_take (i := 5) (v := ?_) rfl (by kernel_rfl) (by kernel_rfl) (by kernel_rfl) (by kernel_rfl) (fun _ _ _ h => h) (Or.inl ⟨by rfl, ?_⟩) hS ?_
      rotate_left
      · intro w0 hS0; obtain ⟨q0, q1, q2, q3⟩ := hS0; go_simp; try with_reducible rfl
      simp only [Act.put, List.setIfInBounds_toArray, List.set_cons_zero, List.set_cons_succ, List.getElem_toArray, List.getElem_cons_succ, List.getElem_cons_zero]
      refine wpAnyK_take (i := 6) (v := ?_) rfl (by kernel_rfl) (by kernel_rfl) (by kernel_rfl) (by kernel_rfl) (fun _ _ _ h => h) (Or.inl ⟨by rfl, ?_⟩) hS ?_
      rotate_left
      · intro w0 hS0; obtain ⟨q0, q1, q2, q3⟩ := hS0; go_simp; try with_reducible rfl
      simp only [Act.put, List.setIfInBounds_toArray, List.set_cons_zero, List.set_cons_succ, List.getElem_toArray, List.getElem_cons_succ, List.getElem_cons_zero]
      refine wpAnyK_take (i := 7) (v := ?_) rfl (by kernel_rfl) (by kernel_rfl) (by kernel_rfl) (by kernel_rfl) (fun _ _ _ h => h) (Or.inl ⟨by rfl, ?_⟩) hS ?_
      rotate_left
      · intro w0 hS0; obtain ⟨q0, q1, q2, q3⟩ := hS0; go_simp; try with_reducible rfl
      simp only [Act.put, List.setIfInBounds_toArray, List.set_cons_zero, List.set_cons_succ, List.getElem_toArray, List.getElem_cons_succ, List.getElem_cons_zero]
      refine wpAnyK_one (i := 8) rfl (by kernel_rfl) rfl ?_
      go_simp
      refine wpAnyK_done (by kernel_rfl) ?_ _
      clear hS k0 k1 k2 k3 k4 k5 hlk2
      have rc := RA.out.clear EA.out
      have hc := HWA.out.drew.storeTo (off := 0) (c' := #[.slice none 0 0]) (RA.out.file e EA.out) (.slice none 0 0) (by simp)
      have bne : e.fb ≠ pb := fun e1 => by have h1 := RA.out.file e EA.out; rw [e1, LBX.out] at h1; simp [fileObj] at h1
      have nne : e.fb ≠ pb + 1 := fun e1 => by have h1 := RA.out.file e EA.out; rw [e1, LNX.out] at h1; simp [fileObj] at h1
      have lb2 : (mA.set e.fb (.cells #[.slice none 0 0] 80 (0, 0))) pb = some (.cells #[.pointer (some ⟨sb, 0, none⟩)] 25 (0, 0)) := by rw [Mem.set_ne _ _ (Ne.symm bne)]; exact LBX.out
      have ln2 : (mA.set e.fb (.cells #[.slice none 0 0] 80 (0, 0))) (pb + 1) = some (.cells #[.string s] 9 (0, 0)) := by rw [Mem.set_ne _ _ (Ne.symm nne)]; exact LNX.out
      have eB : ({ e with bv := .slice none 0 0, bs := [] } : Ent) ∈ setL gA.L e.fb (.slice none 0 0) [] := List.mem_map.2 ⟨e, EA.out, by simp⟩
      have gB : getE (setL gA.L e.fb (.slice none 0 0) []) s = some { e with bv := .slice none 0 0, bs := [] } := by
        rw [← getE_name GE.out]
        exact getE_of (e := { e with bv := .slice none 0 0, bs := [] }) rc.names eB
      go_wp2_with fail
      refine wp_opaque w _ hc (NWA.out.drew.setCell _ _) ?_
      intro wb hb nb
      have k0 : wb.cell? ⟨pb, 0, none⟩ = some (.pointer (some ⟨sb, 0, none⟩)) := by rw [hb.cell lb2]; rfl
      have k1 : wb.cell? ⟨pb + 1, 0, none⟩ = some (.string s) := by rw [hb.cell ln2]; rfl
      have k2 : wb.cell? ⟨sb, 0, none⟩ = some (.map (some gA.mb)) := by rw [hb.cell rc.store]; rfl
      have k3 : wb.heap[gA.mb]? = some (.map ((setL gA.L e.fb (.slice none 0 0) []).map Ent.entry).toArray gA.clock) := hb _ _ rc.map
      have hlk2 : ∀ w0 : World, w0.heap[gA.mb]? = some (.map ((setL gA.L e.fb (.slice none 0 0) []).map Ent.entry).toArray gA.clock) → (Instr.lookup 68 (.map (some gA.mb)) (.string s) false).run Tryz.prog w0 = .ok (.pointer (some ⟨e.fb, 0, none⟩)) w0 := fun w0 h => by
        rw [run_lookupF gA.mb gA.clock _ s w0 h, lookV_some gB]
      have HB := Lib.hid hb
      have NB := Lib.hid nb
      have RC := Lib.hid rc
      have EB := Lib.hid eB
      have FC := Lib.hid (SRep.clear_fr (m := mA) (sb := sb) EA.out (.cells #[.slice none 0 0] 80 (0, 0)))
      have AC := Lib.hid (abs_setF RA.out EA.out (.slice none 0 0) [])
      clear hb nb rc hc eB gB lb2 ln2 bne nne
      generalize setL gA.L e.fb (.slice none 0 0) [] = LB at *
      refine wp_region_K 8 (fun w' => w'.cell? ⟨pb, 0, none⟩ = some (.pointer (some ⟨sb, 0, none⟩)) ∧ w'.cell? ⟨pb + 1, 0, none⟩ = some (.string s) ∧ w'.cell? ⟨sb, 0, none⟩ = some (.map (some gA.mb)) ∧ w'.heap[gA.mb]? = some (.map (LB.map Ent.entry).toArray gA.clock)) (by kernel_rfl) ?_
      have hS : (fun w' : World => w'.cell? ⟨pb, 0, none⟩ = some (.pointer (some ⟨sb, 0, none⟩)) ∧ w'.cell? ⟨pb + 1, 0, none⟩ = some (.string s) ∧ w'.cell? ⟨sb, 0, none⟩ = some (.map (some gA.mb)) ∧ w'.heap[gA.mb]? = some (.map (LB.map Ent.entry).toArray gA.clock)) wb.drew := ⟨k0, k1, k2, k3⟩
      refine wpAnyK_take (i := 0) (v := ?_) rfl (by kernel_rfl) (by kernel_rfl) (by kernel_rfl) (by kernel_rfl) (fun _ _ _ h => h) (Or.inl ⟨by rfl, ?_⟩) hS ?_
      rotate_left
      · intro w0 hS0; obtain ⟨q0, q1, q2, q3⟩ := hS0; go_simp; try with_reducible rfl
      simp only [Act.put, List.setIfInBounds_toArray, List.set_cons_zero, List.set_cons_succ, List.getElem_toArray, List.getElem_cons_succ, List.getElem_cons_zero]
      refine wpAnyK_take (i := 1) (v := ?_) rfl (by kernel_rfl) (by kernel_rfl) (by kernel_rfl) (by kernel_rfl) (fun _ _ _ h => h) (Or.inl ⟨by rfl, ?_⟩) hS ?_
      rotate_left
      · intro w0 hS0; obtain ⟨q0, q1, q2, q3⟩ := hS0; go_simp; try with_reducible rfl
      simp only [Act.put, List.setIfInBounds_toArray, List.set_cons_zero, List.set_cons_succ, List.getElem_toArray, List.getElem_cons_succ, List.getElem_cons_zero]
      refine wpAnyK_take (i := 2) (v := ?_) rfl (by kernel_rfl) (by kernel_rfl) (by kernel_rfl) (by kernel_rfl) (fun _ _ _ h => h) (Or.inl ⟨by rfl, ?_⟩) hS ?_
      rotate_left
      · intro w0 hS0; obtain ⟨q0, q1, q2, q3⟩ := hS0; go_simp; try with_reducible rfl
      simp only [Act.put, List.setIfInBounds_toArray, List.set_cons_zero, List.set_cons_succ, List.getElem_toArray, List.getElem_cons_succ, List.getElem_cons_zero]
      refine wpAnyK_take (i := 3) (v := ?_) rfl (by kernel_rfl) (by kernel_rfl) (by kernel_rfl) (by kernel_rfl) (fun _ _ _ h => h) (Or.inl ⟨by rfl, ?_⟩) hS ?_
      rotate_left
      · intro w0 hS0; obtain ⟨q0, q1, q2, q3⟩ := hS0; go_simp; try with_reducible rfl
      simp only [Act.put, List.setIfInBounds_toArray, List.set_cons_zero, List.set_cons_succ, List.getElem_toArray, List.getElem_cons_succ, List.getElem_cons_zero]
      refine wpAnyK_take (i := 4) (v := ?_) rfl (by kernel_rfl) (by kernel_rfl) (by kernel_rfl) (by kernel_rfl) (fun _ _ _ h => h) (Or.inl ⟨by rfl, ?_⟩) hS ?_
      rotate_left
      · intro w0 hS0; obtain ⟨q0, q1, q2, q3⟩ := hS0; go_simp; try with_reducible rfl
      simp only [Act.put, List.setIfInBounds_toArray, List.set_cons_zero, List.set_cons_succ, List.getElem_toArray, List.getElem_cons_succ, List.getElem_cons_zero]
      refine wpAnyK_take (i := 5) (v := ?_) rfl (by kernel_rfl) (by kernel_rfl) (by kernel_rfl) (by kernel_rfl) (fun _ _ _ h => h) (Or.inl ⟨by rfl, ?_⟩) hS ?_
      rotate_left
      · intro w0 hS0; obtain ⟨q0, q1, q2, q3⟩ := hS0; go_simp; try with_reducible rfl
      simp only [Act.put, List.setIfInBounds_toArray, List.set_cons_zero, List.set_cons_succ, List.getElem_toArray, List.getElem_cons_succ, List.getElem_cons_zero]
      refine wpAnyK_take (i := 6) (v := ?_) rfl (by kernel_rfl) (by kernel_rfl) (by kernel_rfl) (by kernel_rfl) (fun _ _ _ h => h) (Or.inl ⟨by rfl, ?_⟩) hS ?_
      rotate_left
      · intro w0 hS0; obtain ⟨q0, q1, q2, q3⟩ := hS0; go_simp; try with_reducible rfl
      simp only [Act.put, List.setIfInBounds_toArray, List.set_cons_zero, List.set_cons_succ, List.getElem_toArray, List.getElem_cons_succ, List.getElem_cons_zero]
      refine wpAnyK_take (i := 7) (v := ?_) rfl (by kernel_rfl) (by kernel_rfl) (by kernel_rfl) (by kernel_rfl) (fun _ _ _ h => h) (Or.inl ⟨by rfl, ?_⟩) hS ?_
      rotate_left
      · intro w0 hS0; obtain ⟨q0, q1, q2, q3⟩ := hS0; go_simp; try with_reducible rfl
      simp only [Act.put, List.setIfInBounds_toArray, List.set_cons_zero, List.set_cons_succ, List.getElem_toArray, List.getElem_cons_succ, List.getElem_cons_zero]
      refine wpAnyK_one (i := 8) rfl (by kernel_rfl) rfl ?_
      go_simp
      refine (add_any sb { gA with L := LB } { e with bv := .slice none 0 0, bs := [] } mode wb.drew _ HB.out.drew RC.out EB.out (by show fullB gA.O = false; rw [OA.out]; exact HFB.out)).mono ?_
      rintro e1 w9 ⟨ob, ov', m9, rfl, hnob, h9, n9, r9, f9⟩
      have H9 := Lib.hid h9
      have N9 := Lib.hid (NB.out.drew.trans n9)
      have R9 := Lib.hid r9
      have F9 := Lib.hid f9
      clear h9 n9 r9 f9 hnob hS hlk2 k0 k1 k2 k3
      refine wpAnyK_one (i := 9) rfl (by kernel_rfl) rfl ?_
      go_simp
      refine wpAnyK_one (i := 10) rfl (by kernel_rfl) rfl ?_
      go_simp
      refine wpAnyK_done (by kernel_rfl) ?_ _
      go_wp2_with fail
      refine bodyPost_ret (v := .tuple #[.int .i64 ((addI gA.O : Int) + 1), .int .i64 0]) (by simp [results, Tryz.results8, go_sem]) rfl ?_
      have hfr : g.abs.free = some (addI g.O) := by
        have := abs_free R8.out
        rw [show g.abs.free = (if fullB g.O then none else some (addI g.O)) from this, HFB.out]; rfl
      have hF : g.abs.createF s mode = ((g.abs.tick.make s).setH (addI g.O) (some (s, mode, 0)), 0, (addI g.O : Int) + 1) := by
        unfold A.createF; rw [if_neg (fun c => c HX.out), hfr]; rfl
      rw [hF]
      have hab := abs_add (g := { gA with L := LB }) (h := ⟨ob, e.fb, e.name, mode, 0⟩) ov'
      rw [AC.out] at hab
      have hop : OpR (β := Int) ma sb g (fun _ => False) ((g.abs.tick.make s).setH (addI g.O) (some (s, mode, 0)), 0, (addI g.O : Int) + 1) (fun _ i => Value.int .i64 ((addI gA.O : Int) + 1) = .int .i64 i) m9 0 := by
        refine ⟨_, R9.out, (FA2.out.trans ((FC.out.trans F9.out).more _)).mono (fun b hb => .inr (.inl hb)), ?_, rfl, by rw [OA.out]⟩
        refine hab.trans ?_
        show ((gA.abs.setF e.name []).setH (addI gA.O) (some (e.name, mode, 0))) = _
        rw [getE_name GE.out, ABS.out, OA.out]
      exact ⟨_, _, m9, rfl, H9.out, N9.out, hop.ahead L1.out (fun _ h => h.elim) (fun h => h)⟩
    | none =>
      rw [lookV_none hge] at hlk
      have HGE := Lib.hid hge
      clear hge
      go_wp2_with fail
      go_quiet (fail)
      go_wp2_with fail
      have HFB : Hid (fullB g.O = false) := Lib.hid (by
        obtain ⟨_, _, _, h4⟩ := createX_zero HX.out
        rw [HFULL.out] at h4
        unfold cfullB at h4
        cases hfu : fullB g.O with
        | false => rfl
        | true => rw [hfu] at h4; simp at h4)
      have HLN : Hid (g.L.length < 100) := Lib.hid (by
        obtain ⟨_, _, _, h4⟩ := createX_zero HX.out
        rw [HFULL.out] at h4
        unfold cfullB at h4
        rw [HFB.out, HGE.out] at h4
        simp at h4
        omega)
      have HNM : Hid (isNameB s = true) := Lib.hid (createX_zero HX.out).2.1
      have hfA := (H8.out.drewN nq).drew.alloc (.cells #[.slice none 0 0] 80)
      have frA := H8.out.fresh (Nat.le_refl w8.heap.size)
      have lA := Mem.le_set m8 (.cells #[.slice none 0 0] 80) frA
      have mb8 : m8 g.mb = some (mapObj g.L g.clock) := R8.out.map
      have mbA := lA _ _ mb8
      have hup := run_updateF g.mb g.clock g.L ⟨s, w8.heap.size, g.clock, .slice none 0 0, []⟩ ((w8.drewN nq).drew.alloc (.cells #[.slice none 0 0] 80)) (hfA _ _ mbA)
      have hput : putE g.L g.clock ⟨s, w8.heap.size, g.clock, .slice none 0 0, []⟩ = (g.L ++ [⟨s, w8.heap.size, g.clock, .slice none 0 0, []⟩], g.clock + 1) := by
        unfold putE; rw [findAt_noneE HGE.out]
      rw [hput] at hup
      have hwA := hfA.setObj mbA (mapObj (g.L ++ [⟨s, w8.heap.size, g.clock, .slice none 0 0, []⟩]) (g.clock + 1))
      have nwA := ((N8.out.drewN nq).drew.alloc (.cells #[.slice none 0 0] 80)).setObj g.mb (mapObj (g.L ++ [⟨s, w8.heap.size, g.clock, .slice none 0 0, []⟩]) (g.clock + 1))
      have nmb : w8.heap.size ≠ g.mb := fun e => by have h1 := mb8; rw [← e, frA] at h1; cases h1
      have lt1 : pb < w8.heap.size := H8.out.lt (L8.out _ _ BX3.out)
      have lt2 : pb + 1 < w8.heap.size := H8.out.lt (L8.out _ _ NX3.out)
      have lt3 : sb < w8.heap.size := H8.out.lt R8.out.store
      have bmb : pb ≠ g.mb := fun e => by have h1 := mb8; rw [← e, L8.out _ _ BX3.out] at h1; simp [mapObj] at h1
      have nnb : pb + 1 ≠ g.mb := fun e => by have h1 := mb8; rw [← e, L8.out _ _ NX3.out] at h1; simp [mapObj] at h1
      have rA := SRep.addL (g := g.tick) R8.out ⟨s, w8.heap.size, g.clock, .slice none 0 0, []⟩ rfl (m' := (m8.set w8.heap.size (.cells #[.slice none 0 0] 80 (0, 0))).set g.mb (mapObj (g.L ++ [⟨s, w8.heap.size, g.clock, .slice none 0 0, []⟩]) (g.clock + 1)))
        (fun b o hb hne => by rw [Mem.set_ne _ _ (show b ≠ g.mb from hne)]; exact lA _ _ hb) (Mem.set_same _ _ _) (by rw [Mem.set_ne _ _ nmb, Mem.set_same]; rfl) (Row.nil _ _ _) frA (fun b hb => by cases hb) HGE.out HNM.out HLN.out (by simp)
      obtain ⟨gA, hgA⟩ : ∃ gA : G, ({ g.tick with L := g.L ++ [⟨s, w8.heap.size, g.clock, .slice none 0 0, []⟩], clock := g.clock + 1 } : G) = gA := ⟨_, rfl⟩
      change SRep _ sb { g.tick with L := g.L ++ [⟨s, w8.heap.size, g.clock, .slice none 0 0, []⟩], clock := g.clock + 1 } at rA
      obtain ⟨e, he⟩ : ∃ e : Ent, ⟨s, w8.heap.size, g.clock, .slice none 0 0, []⟩ = e := ⟨_, rfl⟩
      obtain ⟨mA, hmA⟩ : ∃ mA, (m8.set w8.heap.size (.cells #[.slice none 0 0] 80 (0, 0))).set g.mb (mapObj (g.L ++ [⟨s, w8.heap.size, g.clock, .slice none 0 0, []⟩]) (g.clock + 1)) = mA := ⟨_, rfl⟩
      have hen : e.name = s := by rw [← he]
      have hef : e.fb = w8.heap.size := by rw [← he]
      have RA : Hid (SRep mA sb gA) := Lib.hid (by rw [← hmA, ← hgA]; exact rA)
      have EA : Hid (e ∈ gA.L) := Lib.hid (by rw [← hgA, ← he]; simp)
      have GE : Hid (getE gA.L s = some e) := Lib.hid (by rw [← hen]; exact getE_of RA.out.names EA.out)
      have OA : Hid (gA.O = g.O) := Lib.hid (by rw [← hgA]; rfl)
      have LBX : Hid (mA pb = some (.cells #[.pointer (some ⟨sb, 0, none⟩)] 25 (0, 0))) := Lib.hid (by rw [← hmA, Mem.set_ne _ _ bmb]; exact lA _ _ (L8.out _ _ BX3.out))
      have LNX : Hid (mA (pb + 1) = some (.cells #[.string s] 9 (0, 0))) := Lib.hid (by rw [← hmA, Mem.set_ne _ _ nnb]; exact lA _ _ (L8.out _ _ NX3.out))
      have FA2 : Hid (Fr ma mA (fun b => FP sb g b ∨ False) (fun b => FP sb gA b ∨ False)) := Lib.hid (by
        have f1 := FRS.out.le (Mem.le_trans LL.out (Mem.le_trans L8.out lA))
        have f2 := Fr.set (m := m8.set w8.heap.size (.cells #[.slice none 0 0] 80 (0, 0))) (P := fun b => FP sb g b ∨ False) (b := g.mb) (mapObj (g.L ++ [⟨s, w8.heap.size, g.clock, .slice none 0 0, []⟩]) (g.clock + 1)) (.inl (.inl (.inr (.inl rfl))))
        have f3 := f1.trans f2
        rw [hmA] at f3
        refine f3.mono (fun b hb => ?_)
        rcases hb with hb | hb
        · rw [← hgA] at hb
          rcases FP_addL (g := g.tick) hb with y | y | y
          · exact .inl (.inl y)
          · rw [show b = w8.heap.size from y]
            exact .inr (.inr (Mem.none_le (Mem.le_refl _) (by
              have hd := FRS.out.new
              cases hma : ma w8.heap.size with
              | none => rfl
              | some o =>
                have hk := FRS.out.keep _ _ hma (by
                  rintro (z | z)
                  · exact R8.out.unknown frA z
                  · exact z)
                rw [L8.out _ _ (LL.out _ _ hk)] at frA; cases frA)))
          · cases y
        · exact hb.elim)
      have ABS : Hid (gA.abs.setF s [] = g.abs.tick.make s) := Lib.hid (by
        rw [← hgA]
        have h1 := abs_addL (g := g.tick) (e := e) (by rw [hen]; exact HGE.out) (g.clock + 1) (by rw [← he])
        rw [he]
        change ({ g.tick with L := g.tick.L ++ [e], clock := g.clock + 1 } : G).abs.setF s [] = _
        rw [h1, hen, make_setF]; rfl)
      replace hwA : Has (setObjW ((w8.drewN nq).drew.alloc (.cells #[.slice none 0 0] 80)) g.mb (mapObj (g.L ++ [⟨s, w8.heap.size, g.clock, .slice none 0 0, []⟩]) (g.clock + 1))) mA := by rw [← hmA]; exact hwA
      rw [he] at hup hwA nwA
      rw [hen, hef] at hup
      dsimp only at hup
      have SA : Hid (((w8.drewN nq).drew.alloc (.cells #[.slice none 0 0] 80)).cell? ⟨pb, 0, none⟩ = some (.pointer (some ⟨sb, 0, none⟩)) ∧ ((w8.drewN nq).drew.alloc (.cells #[.slice none 0 0] 80)).cell? ⟨pb + 1, 0, none⟩ = some (.string s) ∧
          ((w8.drewN nq).drew.alloc (.cells #[.slice none 0 0] 80)).cell? ⟨sb, 0, none⟩ = some (.map (some g.mb))) := Lib.hid ⟨by rw [hfA.cell (lA _ _ (L8.out _ _ BX3.out))]; rfl, by rw [hfA.cell (lA _ _ (L8.out _ _ NX3.out))]; rfl, by rw [hfA.cell (lA _ _ R8.out.store)]; rfl⟩
      have HWX := Lib.hid hwA
      have NWX := Lib.hid nwA
      have y0 : (w8.drewN nq).cell? ⟨pb, 0, none⟩ = some (.pointer (some ⟨sb, 0, none⟩)) := p8
      have y1 : (w8.drewN nq).cell? ⟨pb + 1, 0, none⟩ = some (.string s) := s8
      have y2 : (w8.drewN nq).cell? ⟨sb, 0, none⟩ = some (.map (some g.mb)) := t0
      clear hwA nwA hfA mbA rA hput hmA hgA bmb nnb nmb lA
      refine wp_region_K 7 (fun w' => w'.cell? ⟨pb, 0, none⟩ = some (.pointer (some ⟨sb, 0, none⟩)) ∧ w'.cell? ⟨pb + 1, 0, none⟩ = some (.string s) ∧ w'.cell? ⟨sb, 0, none⟩ = some (.map (some g.mb))) (by kernel_rfl) ?_
      have hS : (fun w' : World => w'.cell? ⟨pb, 0, none⟩ = some (.pointer (some ⟨sb, 0, none⟩)) ∧ w'.cell? ⟨pb + 1, 0, none⟩ = some (.string s) ∧ w'.cell? ⟨sb, 0, none⟩ = some (.map (some g.mb))) (w8.drewN nq).drew := ⟨y0, y1, y2⟩
      refine wpAnyK_take (i := 0) (v := ?_) rfl (by kernel_rfl) (by kernel_rfl) (by kernel_rfl) (by kernel_rfl) (fun _ _ _ h => h) (Or.inl ⟨by rfl, ?_⟩) hS ?_
      rotate_left
      · intro w0 hS0; obtain ⟨q0, q1, q2⟩ := hS0; go_simp; try with_reducible rfl
      simp only [Act.put, List.setIfInBounds_toArray, List.set_cons_zero, List.set_cons_succ, List.getElem_toArray, List.getElem_cons_succ, List.getElem_cons_zero]
      refine wpAnyK_take (i := 1) (v := ?_) rfl (by kernel_rfl) (by kernel_rfl) (by kernel_rfl) (by kernel_rfl) (fun _ _ _ h => h) (Or.inl ⟨by rfl, ?_⟩) hS ?_
      rotate_left
      · intro w0 hS0; obtain ⟨q0, q1, q2⟩ := hS0; go_simp; try with_reducible rfl
      simp only [Act.put, List.setIfInBounds_toArray, List.set_cons_zero, List.set_cons_succ, List.getElem_toArray, List.getElem_cons_succ, List.getElem_cons_zero]
      refine wpAnyK_take (i := 2) (v := ?_) rfl (by kernel_rfl) (by kernel_rfl) (by kernel_rfl) (by kernel_rfl) (fun _ _ _ h => h) (Or.inl ⟨by rfl, ?_⟩) hS ?_
      rotate_left
      · intro w0 hS0; obtain ⟨q0, q1, q2⟩ := hS0; go_simp; try with_reducible rfl
      simp only [Act.put, List.setIfInBounds_toArray, List.set_cons_zero, List.set_cons_succ, List.getElem_toArray, List.getElem_cons_succ, List.getElem_cons_zero]
      refine wpAnyK_take (i := 3) (v := ?_) rfl (by kernel_rfl) (by kernel_rfl) (by kernel_rfl) (by kernel_rfl) (fun _ _ _ h => h) (Or.inl ⟨by rfl, ?_⟩) hS ?_
      rotate_left
      · intro w0 hS0; obtain ⟨q0, q1, q2⟩ := hS0; go_simp; try with_reducible rfl
      simp only [Act.put, List.setIfInBounds_toArray, List.set_cons_zero, List.set_cons_succ, List.getElem_toArray, List.getElem_cons_succ, List.getElem_cons_zero]
      refine wpAnyK_take (i := 4) (v := ?_) rfl (by kernel_rfl) (by kernel_rfl) (by kernel_rfl) (by kernel_rfl) (fun _ _ _ h => h) (Or.inl ⟨by rfl, ?_⟩) hS ?_
      rotate_left
      · intro w0 hS0; obtain ⟨q0, q1, q2⟩ := hS0; go_simp; try with_reducible rfl
      simp only [Act.put, List.setIfInBounds_toArray, List.set_cons_zero, List.set_cons_succ, List.getElem_toArray, List.getElem_cons_succ, List.getElem_cons_zero]
      refine wpAnyK_take (i := 5) (v := ?_) rfl (by kernel_rfl) (by kernel_rfl) (by kernel_rfl) (by kernel_rfl) (fun _ _ _ h => h) (Or.inl ⟨by rfl, ?_⟩) hS ?_
      rotate_left
      · intro w0 hS0; obtain ⟨q0, q1, q2⟩ := hS0; go_simp; try with_reducible rfl
      simp only [Act.put, List.setIfInBounds_toArray, List.set_cons_zero, List.set_cons_succ, List.getElem_toArray, List.getElem_cons_succ, List.getElem_cons_zero]
      refine wpAnyK_one (i := 6) rfl (by kernel_rfl) rfl ?_
      go_simp
      refine ⟨SA.out, ?_⟩
      clear SA
      refine wpAnyK_one (i := 7) rfl (by kernel_rfl) rfl ?_
      refine wp_upd 68 (.tmp 51) (.tmp 52) (.tmp 54) rfl rfl rfl rfl hup ?_
      refine ⟨fun h => absurd h (by decide), wpAnyK_done (by kernel_rfl) ?_ _⟩
      clear hup hS y0 y1 y2
      go_wp2_with fail
      refine wp_opaque w _ HWX.out NWX.out ?_
      intro wa hwa nwa
      have HWA := Lib.hid hwa
      have NWA := Lib.hid nwa
      clear hwa nwa HWX NWX he hen hef
      have k0 : wa.cell? ⟨pb, 0, none⟩ = some (.pointer (some ⟨sb, 0, none⟩)) := by rw [HWA.out.cell LBX.out]; rfl
      have k1 : wa.cell? ⟨pb + 1, 0, none⟩ = some (.string s) := by rw [HWA.out.cell LNX.out]; rfl
      have k2 : wa.cell? ⟨sb, 0, none⟩ = some (.map (some gA.mb)) := by rw [HWA.out.cell RA.out.store]; rfl
      have k3 : wa.heap[gA.mb]? = some (.map (gA.L.map Ent.entry).toArray gA.clock) := HWA.out _ _ RA.out.map
      have k4 : wa.cell? ⟨e.fb, 0, none⟩ = some e.bv := by rw [HWA.out.cell (RA.out.file e EA.out)]; rfl
      have k5 : wa.frozen? ⟨e.fb, 0, none⟩ = false := HWA.out.froz (RA.out.file e EA.out)
      have hlk2 : ∀ w0 : World, w0.heap[gA.mb]? = some (.map (gA.L.map Ent.entry).toArray gA.clock) → (Instr.lookup 68 (.map (some gA.mb)) (.string s) false).run Tryz.prog w0 = .ok (.pointer (some ⟨e.fb, 0, none⟩)) w0 := fun w0 h => by
        rw [run_lookupF gA.mb gA.clock gA.L s w0 h, lookV_some GE.out]
      refine wp_region_K 8 (fun w' => w'.cell? ⟨pb, 0, none⟩ = some (.pointer (some ⟨sb, 0, none⟩)) ∧ w'.cell? ⟨pb + 1, 0, none⟩ = some (.string s) ∧ w'.cell? ⟨sb, 0, none⟩ = some (.map (some gA.mb)) ∧ w'.heap[gA.mb]? = some (.map (gA.L.map Ent.entry).toArray gA.clock)) (by kernel_rfl) ?_
      have hS : (fun w' : World => w'.cell? ⟨pb, 0, none⟩ = some (.pointer (some ⟨sb, 0, none⟩)) ∧ w'.cell? ⟨pb + 1, 0, none⟩ = some (.string s) ∧ w'.cell? ⟨sb, 0, none⟩ = some (.map (some gA.mb)) ∧ w'.heap[gA.mb]? = some (.map (gA.L.map Ent.entry).toArray gA.clock)) wa.drew := ⟨k0, k1, k2, k3⟩
      refine wpAnyK_take (i := 0) (v := ?_) rfl (by kernel_rfl) (by kernel_rfl) (by kernel_rfl) (by kernel_rfl) (fun _ _ _ h => h) (Or.inl ⟨by rfl, ?_⟩) hS ?_
      rotate_left
      · intro w0 hS0; obtain ⟨q0, q1, q2, q3⟩ := hS0; go_simp; try with_reducible rfl
      simp only [Act.put, List.setIfInBounds_toArray, List.set_cons_zero, List.set_cons_succ, List.getElem_toArray, List.getElem_cons_succ, List.getElem_cons_zero]
      refine wpAnyK_take (i := 1) (v := ?_) rfl (by kernel_rfl) (by kernel_rfl) (by kernel_rfl) (by kernel_rfl) (fun _ _ _ h => h) (Or.inl ⟨by rfl, ?_⟩) hS ?_
      rotate_left
      · intro w0 hS0; obtain ⟨q0, q1, q2, q3⟩ := hS0; go_simp; try with_reducible rfl
      simp only [Act.put, List.setIfInBounds_toArray, List.set_cons_zero, List.set_cons_succ, List.getElem_toArray, List.getElem_cons_succ, List.getElem_cons_zero]
      refine wpAnyK_take (i := 2) (v := ?_) rfl (by kernel_rfl) (by kernel_rfl) (by kernel_rfl) (by kernel_rfl) (fun _ _ _ h => h) (Or.inl ⟨by rfl, ?_⟩) hS ?_
      rotate_left
      · intro w0 hS0; obtain ⟨q0, q1, q2, q3⟩ := hS0; go_simp; try with_reducible rfl
      simp only [Act.put, List.setIfInBounds_toArray, List.set_cons_zero, List.set_cons_succ, List.getElem_toArray, List.getElem_cons_succ, List.getElem_cons_zero]
      refine wpAnyK_take (i := 3) (v := ?_) rfl (by kernel_rfl) (by kernel_rfl) (by kernel_rfl) (by kernel_rfl) (fun _ _ _ h => h) (Or.inl ⟨by rfl, ?_⟩) hS ?_
      rotate_left
      · intro w0 hS0; obtain ⟨q0, q1, q2, q3⟩ := hS0; go_simp; try with_reducible rfl
      simp only [Act.put, List.setIfInBounds_toArray, List.set_cons_zero, List.set_cons_succ, List.getElem_toArray, List.getElem_cons_succ, List.getElem_cons_zero]
      refine wpAnyK_take (i := 4) (v := ?_) rfl (by kernel_rfl) (by kernel_rfl) (by kernel_rfl) (by kernel_rfl) (fun _ _ _ h => h) (Or.inl ⟨by rfl, ?_⟩) hS ?_
      rotate_left
      · intro w0 hS0; obtain ⟨q0, q1, q2, q3⟩ := hS0; go_simp; try with_reducible rfl
      simp only [Act.put, List.setIfInBounds_toArray, List.set_cons_zero, List.set_cons_succ, List.getElem_toArray, List.getElem_cons_succ, List.getElem_cons_zero]
      refine wpAnyK_take (i := 5) (v := ?_) rfl (by kernel_rfl) (by kernel_rfl) (by kernel_rfl) (by kernel_rfl) (fun _ _ _ h => h) (Or.inl ⟨by rfl, ?_⟩) hS ?_
      rotate_left
      · intro w0 hS0; obtain ⟨q0, q1, q2, q3⟩ := hS0; go_simp; try with_reducible rfl
      simp only [Act.put, List.setIfInBounds_toArray, List.set_cons_zero, List.set_cons_succ, List.getElem_toArray, List.getElem_cons_succ, List.getElem_cons_zero]
      refine wpAnyK_take (i := 6) (v := ?_) rfl (by kernel_rfl) (by kernel_rfl) (by kernel_rfl) (by kernel_rfl) (fun _ _ _ h => h) (Or.inl ⟨by rfl, ?_⟩) hS ?_
      rotate_left
      · intro w0 hS0; obtain ⟨q0, q1, q2, q3⟩ := hS0; go_simp; try with_reducible rfl
      simp only [Act.put, List.setIfInBounds_toArray, List.set_cons_zero, List.set_cons_succ, List.getElem_toArray, List.getElem_cons_succ, List.getElem_cons_zero]
      refine wpAnyK_take (i := 7) (v := ?_) rfl (by kernel_rfl) (by kernel_rfl) (by kernel_rfl) (by kernel_rfl) (fun _ _ _ h => h) (Or.inl ⟨by rfl, ?_⟩) hS ?_
      rotate_left
      · intro w0 hS0; obtain ⟨q0, q1, q2, q3⟩ := hS0; go_simp; try with_reducible rfl
      simp only [Act.put, List.setIfInBounds_toArray, List.set_cons_zero, List.set_cons_succ, List.getElem_toArray, List.getElem_cons_succ, List.getElem_cons_zero]
      refine wpAnyK_one (i := 8) rfl (by kernel_rfl) rfl ?_
      go_simp
      refine wpAnyK_done (by kernel_rfl) ?_ _
      clear hS k0 k1 k2 k3 k4 k5 hlk2
      have rc := RA.out.clear EA.out
      have hc := HWA.out.drew.storeTo (off := 0) (c' := #[.slice none 0 0]) (RA.out.file e EA.out) (.slice none 0 0) (by simp)
      have bne : e.fb ≠ pb := fun e1 => by have h1 := RA.out.file e EA.out; rw [e1, LBX.out] at h1; simp [fileObj] at h1
      have nne : e.fb ≠ pb + 1 := fun e1 => by have h1 := RA.out.file e EA.out; rw [e1, LNX.out] at h1; simp [fileObj] at h1
      have lb2 : (mA.set e.fb (.cells #[.slice none 0 0] 80 (0, 0))) pb = some (.cells #[.pointer (some ⟨sb, 0, none⟩)] 25 (0, 0)) := by rw [Mem.set_ne _ _ (Ne.symm bne)]; exact LBX.out
      have ln2 : (mA.set e.fb (.cells #[.slice none 0 0] 80 (0, 0))) (pb + 1) = some (.cells #[.string s] 9 (0, 0)) := by rw [Mem.set_ne _ _ (Ne.symm nne)]; exact LNX.out
      have eB : ({ e with bv := .slice none 0 0, bs := [] } : Ent) ∈ setL gA.L e.fb (.slice none 0 0) [] := List.mem_map.2 ⟨e, EA.out, by simp⟩
      have gB : getE (setL gA.L e.fb (.slice none 0 0) []) s = some { e with bv := .slice none 0 0, bs := [] } := by
        rw [← getE_name GE.out]
        exact getE_of (e := { e with bv := .slice none 0 0, bs := [] }) rc.names eB
      go_wp2_with fail
      refine wp_opaque w _ hc (NWA.out.drew.setCell _ _) ?_
      intro wb hb nb
      have k0 : wb.cell? ⟨pb, 0, none⟩ = some (.pointer (some ⟨sb, 0, none⟩)) := by rw [hb.cell lb2]; rfl
      have k1 : wb.cell? ⟨pb + 1, 0, none⟩ = some (.string s) := by rw [hb.cell ln2]; rfl
      have k2 : wb.cell? ⟨sb, 0, none⟩ = some (.map (some gA.mb)) := by rw [hb.cell rc.store]; rfl
      have k3 : wb.heap[gA.mb]? = some (.map ((setL gA.L e.fb (.slice none 0 0) []).map Ent.entry).toArray gA.clock) := hb _ _ rc.map
      have hlk2 : ∀ w0 : World, w0.heap[gA.mb]? = some (.map ((setL gA.L e.fb (.slice none 0 0) []).map Ent.entry).toArray gA.clock) → (Instr.lookup 68 (.map (some gA.mb)) (.string s) false).run Tryz.prog w0 = .ok (.pointer (some ⟨e.fb, 0, none⟩)) w0 := fun w0 h => by
        rw [run_lookupF gA.mb gA.clock _ s w0 h, lookV_some gB]
      have HB := Lib.hid hb
      have NB := Lib.hid nb
      have RC := Lib.hid rc
      have EB := Lib.hid eB
      have FC := Lib.hid (SRep.clear_fr (m := mA) (sb := sb) EA.out (.cells #[.slice none 0 0] 80 (0, 0)))
      have AC := Lib.hid (abs_setF RA.out EA.out (.slice none 0 0) [])
      clear hb nb rc hc eB gB lb2 ln2 bne nne
      generalize setL gA.L e.fb (.slice none 0 0) [] = LB at *
      refine wp_region_K 8 (fun w' => w'.cell? ⟨pb, 0, none⟩ = some (.pointer (some ⟨sb, 0, none⟩)) ∧ w'.cell? ⟨pb + 1, 0, none⟩ = some (.string s) ∧ w'.cell? ⟨sb, 0, none⟩ = some (.map (some gA.mb)) ∧ w'.heap[gA.mb]? = some (.map (LB.map Ent.entry).toArray gA.clock)) (by kernel_rfl) ?_
      have hS : (fun w' : World => w'.cell? ⟨pb, 0, none⟩ = some (.pointer (some ⟨sb, 0, none⟩)) ∧ w'.cell? ⟨pb + 1, 0, none⟩ = some (.string s) ∧ w'.cell? ⟨sb, 0, none⟩ = some (.map (some gA.mb)) ∧ w'.heap[gA.mb]? = some (.map (LB.map Ent.entry).toArray gA.clock)) wb.drew := ⟨k0, k1, k2, k3⟩
      refine wpAnyK_take (i := 0) (v := ?_) rfl (by kernel_rfl) (by kernel_rfl) (by kernel_rfl) (by kernel_rfl) (fun _ _ _ h => h) (Or.inl ⟨by rfl, ?_⟩) hS ?_
      rotate_left
      · intro w0 hS0; obtain ⟨q0, q1, q2, q3⟩ := hS0; go_simp; try with_reducible rfl
      simp only [Act.put, List.setIfInBounds_toArray, List.set_cons_zero, List.set_cons_succ, List.getElem_toArray, List.getElem_cons_succ, List.getElem_cons_zero]
      refine wpAnyK_take (i := 1) (v := ?_) rfl (by kernel_rfl) (by kernel_rfl) (by kernel_rfl) (by kernel_rfl) (fun _ _ _ h => h) (Or.inl ⟨by rfl, ?_⟩) hS ?_
      rotate_left
      · intro w0 hS0; obtain ⟨q0, q1, q2, q3⟩ := hS0; go_simp; try with_reducible rfl
      simp only [Act.put, List.setIfInBounds_toArray, List.set_cons_zero, List.set_cons_succ, List.getElem_toArray, List.getElem_cons_succ, List.getElem_cons_zero]
      refine wpAnyK_take (i := 2) (v := ?_) rfl (by kernel_rfl) (by kernel_rfl) (by kernel_rfl) (by kernel_rfl) (fun _ _ _ h => h) (Or.inl ⟨by rfl, ?_⟩) hS ?_
      rotate_left
      · intro w0 hS0; obtain ⟨q0, q1, q2, q3⟩ := hS0; go_simp; try with_reducible rfl
      simp only [Act.put, List.setIfInBounds_toArray, List.set_cons_zero, List.set_cons_succ, List.getElem_toArray, List.getElem_cons_succ, List.getElem_cons_zero]
      refine wpAnyK_take (i := 3) (v := ?_) rfl (by kernel_rfl) (by kernel_rfl) (by kernel_rfl) (by kernel_rfl) (fun _ _ _ h => h) (Or.inl ⟨by rfl, ?_⟩) hS ?_
      rotate_left
      · intro w0 hS0; obtain ⟨q0, q1, q2, q3⟩ := hS0; go_simp; try with_reducible rfl
      simp only [Act.put, List.setIfInBounds_toArray, List.set_cons_zero, List.set_cons_succ, List.getElem_toArray, List.getElem_cons_succ, List.getElem_cons_zero]
      refine wpAnyK_take (i := 4) (v := ?_) rfl (by kernel_rfl) (by kernel_rfl) (by kernel_rfl) (by kernel_rfl) (fun _ _ _ h => h) (Or.inl ⟨by rfl, ?_⟩) hS ?_
      rotate_left
      · intro w0 hS0; obtain ⟨q0, q1, q2, q3⟩ := hS0; go_simp; try with_reducible rfl
      simp only [Act.put, List.setIfInBounds_toArray, List.set_cons_zero, List.set_cons_succ, List.getElem_toArray, List.getElem_cons_succ, List.getElem_cons_zero]
      refine wpAnyK_take (i := 5) (v := ?_) rfl (by kernel_rfl) (by kernel_rfl) (by kernel_rfl) (by kernel_rfl) (fun _ _ _ h => h) (Or.inl ⟨by rfl, ?_⟩) hS ?_
      rotate_left
      · intro w0 hS0; obtain ⟨q0, q1, q2, q3⟩ := hS0; go_simp; try with_reducible rfl
      simp only [Act.put, List.setIfInBounds_toArray, List.set_cons_zero, List.set_cons_succ, List.getElem_toArray, List.getElem_cons_succ, List.getElem_cons_zero]
      refine wpAnyK_take (i := 6) (v := ?_) rfl (by kernel_rfl) (by kernel_rfl) (by kernel_rfl) (by kernel_rfl) (fun _ _ _ h => h) (Or.inl ⟨by rfl, ?_⟩) hS ?_
      rotate_left
      · intro w0 hS0; obtain ⟨q0, q1, q2, q3⟩ := hS0; go_simp; try with_reducible rfl
      simp only [Act.put, List.setIfInBounds_toArray, List.set_cons_zero, List.set_cons_succ, List.getElem_toArray, List.getElem_cons_succ, List.getElem_cons_zero]
      refine wpAnyK_take (i := 7) (v := ?_) rfl (by kernel_rfl) (by kernel_rfl) (by kernel_rfl) (by kernel_rfl) (fun _ _ _ h => h) (Or.inl ⟨by rfl, ?_⟩) hS ?_
      rotate_left
      · intro w0 hS0; obtain ⟨q0, q1, q2, q3⟩ := hS0; go_simp; try with_reducible rfl
      simp only [Act.put, List.setIfInBounds_toArray, List.set_cons_zero, List.set_cons_succ, List.getElem_toArray, List.getElem_cons_succ, List.getElem_cons_zero]
      refine wpAnyK_one (i := 8) rfl (by kernel_rfl) rfl ?_
      go_simp
      refine (add_any sb { gA with L := LB } { e with bv := .slice none 0 0, bs := [] } mode wb.drew _ HB.out.drew RC.out EB.out (by show fullB gA.O = false; rw [OA.out]; exact HFB.out)).mono ?_
      rintro e1 w9 ⟨ob, ov', m9, rfl, hnob, h9, n9, r9, f9⟩
      have H9 := Lib.hid h9
      have N9 := Lib.hid (NB.out.drew.trans n9)
      have R9 := Lib.hid r9
      have F9 := Lib.hid f9
      clear h9 n9 r9 f9 hnob hS hlk2 k0 k1 k2 k3
      refine wpAnyK_one (i := 9) rfl (by kernel_rfl) rfl ?_
      go_simp
      refine wpAnyK_one (i := 10) rfl (by kernel_rfl) rfl ?_
      go_simp
      refine wpAnyK_done (by kernel_rfl) ?_ _
      go_wp2_with fail
      refine bodyPost_ret (v := .tuple #[.int .i64 ((addI gA.O : Int) + 1), .int .i64 0]) (by simp [results, Tryz.results8, go_sem]) rfl ?_
      have hfr : g.abs.free = some (addI g.O) := by
        have := abs_free R8.out
        rw [show g.abs.free = (if fullB g.O then none else some (addI g.O)) from this, HFB.out]; rfl
      have hF : g.abs.createF s mode = ((g.abs.tick.make s).setH (addI g.O) (some (s, mode, 0)), 0, (addI g.O : Int) + 1) := by
        unfold A.createF; rw [if_neg (fun c => c HX.out), hfr]; rfl
      rw [hF]
      have hab := abs_add (g := { gA with L := LB }) (h := ⟨ob, e.fb, e.name, mode, 0⟩) ov'
      rw [AC.out] at hab
      have hop : OpR (β := Int) ma sb g (fun _ => False) ((g.abs.tick.make s).setH (addI g.O) (some (s, mode, 0)), 0, (addI g.O : Int) + 1) (fun _ i => Value.int .i64 ((addI gA.O : Int) + 1) = .int .i64 i) m9 0 := by
        refine ⟨_, R9.out, (FA2.out.trans ((FC.out.trans F9.out).more _)).mono (fun b hb => .inr (.inl hb)), ?_, rfl, by rw [OA.out]⟩
        refine hab.trans ?_
        show ((gA.abs.setF e.name []).setH (addI gA.O) (some (e.name, mode, 0))) = _
        rw [getE_name GE.out, ABS.out, OA.out]
      exact ⟨_, _, m9, rfl, H9.out, N9.out, hop.ahead L1.out (fun _ h => h.elim) (fun h => h)⟩
  · obtain ⟨b4, hb4⟩ : ∃ b, v8 = .iface 104 (.pointer (some ⟨b, 0, none⟩)) := by
      rcases V8.out with ⟨h, _⟩ | ⟨_, b, h, _⟩
      · exact absurd h hx
      · exact ⟨b, h⟩
    subst hb4
    have HX := Lib.hid hx
    clear hx
    go_wp2_with fail
    have g8 : GlobOk m8 := (HG1.out.le LL.out).le L8.out
    refine (ior_any _ _ _ _ H8.out g8 V8.out).mono ?_
    rintro e1 w9 ⟨v9, m9, rfl, l9, h9, n9, rfl⟩
    have L9 := Lib.hid (Mem.le_trans LL.out (Mem.le_trans L8.out l9))
    have H9 := Lib.hid h9
    have N9 := Lib.hid (N8.out.trans n9)
    clear l9 h9 n9 g8
    go_wp2_with fail
    refine bodyPost_ret (v := .tuple #[.int .i64 0, .int .i64 (g.abs.createX s mode)]) (by simp [results, Tryz.results8, go_sem]) rfl ?_
    have hF : g.abs.createF s mode = (g.abs.tick, g.abs.createX s mode, 0) := by unfold A.createF; rw [if_pos HX.out]
    rw [hF]
    have hop : OpR (β := Int) _ sb g (fun _ => False) (g.abs.tick, g.abs.createX s mode, 0) (fun _ i => Value.int .i64 0 = .int .i64 i) m9 (g.abs.createX s mode) :=
      ⟨g.tick, HR1.out.le L9.out, (FRS.out.le L9.out).mono (fun b hb => .inl (.inl hb)), rfl, rfl, rfl⟩
    exact ⟨_, _, m9, rfl, H9.out, N9.out, hop.ahead L1.out (fun _ h => h.elim) (fun h => h)⟩
end Go.Proofs.YtcdmdkgiabfbeaaGreatDoor

/-
  A store with a file under another name.
-/
namespace Go.Proofs.YtcdmdkgiabfbeaaGreatDoor
open Go.RowKit

namespace A
def ren (a : A) (s t : ByteArray) : A := { a with look := fun u => if u = t then a.look s else if u = s then none else a.look u }
def renX (a : A) (s t : ByteArray) : Int :=
  if a.now.2.1 ≠ 0 then a.now.2.1 else if isNameB s = false then -38 else if isNameB t = false then -38 else if (a.look s).isNone then -38 else if a.used s then -69 else if (a.look t).isSome then -69 else 0
def renF (a : A) (s t : ByteArray) : A × Int × Unit := if a.renX s t ≠ 0 then (a.tick, a.renX s t, ()) else (a.tick.ren s t, 0, ())
end A

theorem renX_zero {a : A} {s t : ByteArray} (h : a.renX s t = 0) : isNameB t = true ∧ (a.look s).isNone = false ∧ a.used s = false ∧ (a.look t).isSome = false := by
  unfold A.renX at h
  by_cases h0 : a.now.2.1 = 0
  · rw [if_neg (fun c => c h0)] at h
    cases h1 : isNameB s <;> cases h2 : isNameB t <;> cases h3 : (a.look s).isNone <;> cases h4 : a.used s <;> cases h5 : (a.look t).isSome <;> simp_all
  · rw [if_pos h0] at h; exact absurd h h0

theorem firstOf_ren_g {m : Mem} {sb : Nat} {g : G} (r : SRep m sb g.tick) (s t : ByteArray) (c1 c2 c3 c4 c5 : Value) :
    firstOf g.now.2.1 [(c1, -38, !isNameB s), (c2, -38, !isNameB t), (c3, -38, (getE g.L s).isNone), (c4, -69, g.O.any (isOf g.L s)), (c5, -69, (getE g.L t).isSome)] = g.abs.renX s t := by
  have hn := abs_none g s
  have hw : g.abs.now.2.1 = g.now.2.1 := rfl
  have ht : (g.abs.look t).isSome = (getE g.L t).isSome := by
    show ((getE g.L t).map (·.bs)).isSome = _
    cases getE g.L t <;> rfl
  unfold A.renX
  rw [hn, hw, ht]
  cases hl : (getE g.L s).isNone with
  | true =>
    by_cases h0 : g.now.2.1 = 0
    · cases isNameB s <;> cases isNameB t <;> simp [firstOf, h0]
    · simp [firstOf, h0]
  | false =>
    have hu : g.abs.used s = g.O.any (isOf g.L s) := abs_used (g := g.tick) r (by rw [← hl]; exact abs_none g s)
    rw [hu]
    by_cases h0 : g.now.2.1 = 0
    · cases isNameB s <;> cases isNameB t <;> cases g.O.any (isOf g.L s) <;> cases (getE g.L t).isSome <;> simp [firstOf, h0]
    · simp [firstOf, h0]

def renE (L : List Ent) (s t : ByteArray) (e : Ent) (c : Nat) : List Ent := dropE L s ++ [{ e with name := t, born := c }]

theorem SRep.ren {m : Mem} {sb : Nat} {g : G} (r : SRep m sb g) {s t : ByteArray} {e : Ent} (he : getE g.L s = some e) (hu : ∀ h, some h ∈ g.O → h.name ≠ s) (ht : getE g.L t = none) (hnt : isNameB t = true) :
    SRep (m.set g.mb (mapObj (renE g.L s t e g.clock) (g.clock + 1))) sb { g with L := renE g.L s t e g.clock, clock := g.clock + 1 } := by
  have sub := dropE_sub g.L s
  have hem := getE_mem he
  have hen := getE_name he
  have mem : ∀ d, d ∈ dropE g.L s → d ∈ g.L := fun d hd => sub.subset hd
  have cases' : ∀ d, d ∈ renE g.L s t e g.clock → (d ∈ dropE g.L s) ∨ d = { e with name := t, born := g.clock } := fun d hd => by
    rcases List.mem_append.1 hd with h | h
    · exact .inl h
    · exact .inr (List.mem_singleton.1 h)
  have key : ∀ {b : Nat} {o : Obj}, m b = some o → (∀ es c, o ≠ .map es c) → (m.set g.mb (mapObj (renE g.L s t e g.clock) (g.clock + 1))) b = some o := fun hb ho => by
    rw [Mem.set_ne _ _ (by rintro rfl; rw [r.map] at hb; exact ho _ _ (Option.some.inj hb).symm)]; exact hb
  have krow : ∀ {v : Value} {ty : TypeId} {k n : Nat} {xs : List Value}, Row m v ty k n xs → Row (m.set g.mb (mapObj (renE g.L s t e g.clock) (g.clock + 1))) v ty k n xs := fun h => h.keep fun b o hb hm => by
    obtain ⟨cur, fz, hc⟩ := h.ty hb
    rw [hm] at hc
    obtain rfl := Option.some.inj hc
    exact key hm (by simp)
  have fne : ∀ d ∈ dropE g.L s, d.fb ≠ e.fb := fun d hd h => by
    obtain ⟨h1, h2⟩ := (dropE_mem r.names he).1 hd
    rw [nodup_inj r.fbs h1 hem h] at h2
    exact h2 hen
  have tne : ∀ d ∈ g.L, d.name ≠ t := fun d hd h => by
    have := getE_of r.names hd
    rw [h, ht] at this; cases this
  exact { r with
    store := key r.store (by simp [storeObj])
    map := Mem.set_same _ _ _
    file := fun d hd => by
      rcases cases' d hd with h | rfl
      · exact key (r.file d (mem d h)) (by simp [fileObj])
      · exact key (r.file e hem) (by simp [fileObj])
    row := fun d hd => by
      rcases cases' d hd with h | rfl
      · exact krow (r.row d (mem d h))
      · exact krow (r.row e hem)
    names := by
      show ((renE g.L s t e g.clock).map (·.name)).Nodup
      unfold renE
      rw [List.map_append, List.nodup_append]
      refine ⟨r.names.sublist (sub.map _), by simp, fun a ha b hb hab => ?_⟩
      obtain ⟨d, hd, rfl⟩ := List.mem_map.1 ha
      have hb' : b = t := by simpa using hb
      exact tne d (mem d hd) (hab.trans hb')
    fbs := by
      show ((renE g.L s t e g.clock).map (·.fb)).Nodup
      unfold renE
      rw [List.map_append, List.nodup_append]
      refine ⟨r.fbs.sublist (sub.map _), by simp, fun a ha b hb hab => ?_⟩
      obtain ⟨d, hd, rfl⟩ := List.mem_map.1 ha
      have hb' : b = e.fb := by simpa using hb
      exact fne d hd (hab.trans hb')
    sep := fun d hd d' hd' hne b => by
      rcases cases' d hd with h | rfl <;> rcases cases' d' hd' with h' | rfl
      · exact r.sep d (mem d h) d' (mem d' h') hne b
      · exact r.sep d (mem d h) e hem hne b
      · exact r.sep e hem d' (mem d' h') hne b
      · exact absurd rfl hne
    bornN := by
      show ((renE g.L s t e g.clock).map (·.born)).Nodup
      unfold renE
      rw [List.map_append, List.nodup_append]
      refine ⟨r.bornN.sublist (sub.map _), by simp, fun a ha b hb hab => ?_⟩
      obtain ⟨d, hd, rfl⟩ := List.mem_map.1 ha
      have hb' : b = g.clock := by simpa using hb
      have := r.bornC d (mem d hd)
      omega
    bornC := fun d hd => by
      rcases cases' d hd with h | rfl
      · exact Nat.lt_succ_of_lt (r.bornC d (mem d h))
      · exact Nat.lt_succ_self _
    fails := krow r.fails
    opens := krow r.opens
    hnd := fun h hh => key (r.hnd h hh) (by simp [hndObj])
    hof := fun h hh => by
      obtain ⟨d, hd, h1, h2⟩ := r.hof h hh
      exact ⟨d, List.mem_append_left _ ((dropE_mem r.names he).2 ⟨hd, by rw [h2]; exact hu h hh⟩), h1, h2⟩
    llen := by
      show (renE g.L s t e g.clock).length ≤ 100
      unfold renE
      rw [List.length_append, dropE_len he]
      have h1 := r.llen
      have h2 := List.length_pos_of_mem hem
      simp only [List.length_cons, List.length_nil]
      omega
    nm := fun d hd => by
      rcases cases' d hd with h | rfl
      · exact r.nm d (mem d h)
      · exact hnt
    bsz := fun d hd => by
      rcases cases' d hd with h | rfl
      · exact r.bsz d (mem d h)
      · exact r.bsz e hem }

theorem FP_ren {sb : Nat} {g : G} {s t : ByteArray} {e : Ent} {c c' : Nat} (he : getE g.L s = some e) {b : Nat} (h : FP sb { g with L := renE g.L s t e c, clock := c' } b) : FP sb g b := by
  rcases h with h | h | ⟨d, hd, h⟩ | h | h | h
  · exact .inl h
  · exact .inr (.inl h)
  · rcases List.mem_append.1 hd with hd | hd
    · exact .inr (.inr (.inl ⟨d, (dropE_sub g.L s).subset hd, h⟩))
    · obtain rfl := List.mem_singleton.1 hd
      exact .inr (.inr (.inl ⟨e, getE_mem he, h⟩))
  · exact .inr (.inr (.inr (.inl h)))
  · exact .inr (.inr (.inr (.inr (.inl h))))
  · exact .inr (.inr (.inr (.inr (.inr h))))

theorem abs_ren {m : Mem} {sb : Nat} {g : G} (r : SRep m sb g) {s t : ByteArray} {e : Ent} (he : getE g.L s = some e) (ht : getE g.L t = none) (c : Nat) : ({ g with L := renE g.L s t e c, clock := g.clock + 1 } : G).abs = g.abs.ren s t := by
  have hl : (renE g.L s t e c).length = g.L.length := by
    unfold renE
    rw [List.length_append, dropE_len he]
    have h2 := List.length_pos_of_mem (getE_mem he)
    simp only [List.length_cons, List.length_nil]
    omega
  simp only [G.abs, A.ren, A.mk.injEq, and_true]
  refine ⟨?_, hl⟩
  funext u
  unfold renE
  rw [getE_append, getE_dropE r.names he]
  have hts : t ≠ s := fun h => by rw [h, he] at ht; cases ht
  by_cases hu : u = t
  · subst hu
    rw [if_neg hts, ht, if_pos rfl, he]; simp
  · rw [if_neg (show ¬ u = t from hu), if_neg hu]
    by_cases hs : u = s
    · rw [if_pos hs, if_pos hs]; rfl
    · rw [if_neg hs, if_neg hs]
      cases getE g.L u <;> rfl

/-- What the two stores to the map come to. -/
theorem put_new {L : List Ent} {t : ByteArray} (ht : getE L t = none) (c : Nat) (e : Ent) (hn : e.name = t) : putE L c e = (L ++ [{ e with born := c }], c + 1) := by
  have hf : findAt e.name L 0 = none := by
    rw [findAt_none]
    intro x hx hxn
    unfold getE at ht
    have := List.find?_eq_none.1 ht x hx
    rw [hxn, hn] at this
    simp at this
  unfold putE
  rw [hf]

theorem drop_append {L : List Ent} {s : ByteArray} {e : Ent} (he : getE L s = some e) (d : Ent) : dropE (L ++ [d]) s = dropE L s ++ [d] := by
  obtain ⟨j, hf, hj⟩ := getE_find he
  have hjl := (List.getElem?_eq_some_iff.1 hj).1
  have hf2 : ∀ (L : List Ent) (i j : Nat) (e : Ent), findAt s L i = some (j, e) → findAt s (L ++ [d]) i = some (j, e) := by
    intro L
    induction L with
    | nil => intro i j e h; cases h
    | cons x xs ih =>
      intro i j e h
      simp only [List.cons_append, findAt] at h ⊢
      by_cases hx : s = x.name
      · rw [if_pos hx] at h ⊢; exact h
      · rw [if_neg hx] at h ⊢; exact ih _ _ _ h
  unfold dropE
  rw [hf, hf2 _ _ _ _ hf]
  show (L ++ [d]).eraseIdx j = L.eraseIdx j ++ [d]
  rw [List.eraseIdx_append_of_lt_length hjl]
end Go.Proofs.YtcdmdkgiabfbeaaGreatDoor
