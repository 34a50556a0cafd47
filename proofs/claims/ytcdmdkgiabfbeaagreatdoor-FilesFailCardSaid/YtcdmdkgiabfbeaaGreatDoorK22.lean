/-
  A call on both stores is answered alike: two results (printed by does_gen.py)
-/
import Derived.Test.YtcdmdkgiabfbeaaGreatDoorK19
import Derived.Test.YtcdmdkgiabfbeaaGreatDoorK21
import Derived.Test.YtcdmdkgiabfbeaaGreatDoorK07
import Derived.Test.YtcdmdkgiabfbeaaGreatDoorK10
import Derived.Test.YtcdmdkgiabfbeaaGreatDoorK18
namespace Go.Proofs.YtcdmdkgiabfbeaaGreatDoor
open Go.RowKit

set_option maxHeartbeats 2000000 in
set_option maxRecDepth 100000 in
theorem does_create (sb rb : Nat) (nm to : ByteArray) (id n : Int) (bv : Value) (bs : List UInt8) (g : G) (r : RG) (w : World) (m : Mem) (hm : Has w m) (h : Two m sb rb g r) (hG : GlobOk m) (h0 : ¬ PP sb rb g r 0) (hn : g.n ≤ 9998) :
    Calls Tryz.prog 20 #[.pointer (some ⟨sb, 0, none⟩), .pointer (some ⟨rb, 0, none⟩), .agg #[.int .i64 1, .string nm, .string to, .int .i64 id, .int .i64 n, bv]] w (DoesR w m sb rb g r (g.abs.createF nm n).1) := by
  have hfr := hm.fresh (Nat.le_refl w.heap.size)
  have L := Mem.le_set m (.cells #[.int .i64 1, .string nm, .string to, .int .i64 id, .int .i64 n, bv] 28) hfr
  have HM := Lib.hid (hm.alloc (.cells #[.int .i64 1, .string nm, .string to, .int .i64 id, .int .i64 n, bv] 28))
  have hkn : ∀ b, PP sb rb g r b → b ≠ w.heap.size := fun b hb e => by
    obtain ⟨o, ho⟩ := h.known hb
    rw [e, hfr] at ho; cases ho
  have h' := h.le L
  have hb : (m.set w.heap.size (.cells #[.int .i64 1, .string nm, .string to, .int .i64 id, .int .i64 n, bv] 28)) w.heap.size = some (.cells #[.int .i64 1, .string nm, .string to, .int .i64 id, .int .i64 n, bv] 28) := Mem.set_same _ _ _
  have hG' := hG.le L
  have FR0 := Lib.hid (Fr.of_le L (PP sb rb g r))
  obtain ⟨m', hm'⟩ : ∃ m', m.set w.heap.size (.cells #[.int .i64 1, .string nm, .string to, .int .i64 id, .int .i64 n, bv] 28) = m' := ⟨_, rfl⟩
  rw [hm'] at HM FR0
  have HT := Lib.hid h'
  rw [hm'] at HT
  have HB := Lib.hid hb
  rw [hm'] at HB
  have HKN := Lib.hid hkn
  rw [hm'] at hG' L
  have n0 : Env w (w.alloc (.cells #[.int .i64 1, .string nm, .string to, .int .i64 id, .int .i64 n, bv] 28)) := (Env.refl w).alloc _
  have N0 := Lib.hid n0
  have HO := Lib.hid (create_any sb nm n g _ m' HM.out HT.out.st hG' (fun x => h0 (.inl x)) (by omega))
  obtain ⟨F, hF⟩ : ∃ F, g.abs.createF nm n = F := ⟨_, rfl⟩
  have hF2 : r.abs.createF nm n = F := by rw [h.eq]; exact hF
  rw [hF] at HO
  rw [hF]
  have HF2 := Lib.hid hF2
  have hn2 : r.n ≤ 9998 := by rw [h.n]; exact hn
  clear hm h hG h0 hF hF2 h' hb hm' hkn n0 hfr L hG'
  obtain ⟨a1, x, i⟩ := F
  go_enter Tryz.func20, Tryz.ntmps20
  go_wp2_with fail
  refine HO.out.mono ?_
  rintro e w1 ⟨v, y, m1, rfl, h1, n1, o1⟩
  obtain ⟨g1, mid, ha, hx, hv⟩ := HT.out.fst o1
  simp only at ha hx hv
  subst hx hv
  have hb1 : m1 w.heap.size = some (.cells #[.int .i64 1, .string nm, .string to, .int .i64 id, .int .i64 n, bv] 28) := mid.fr.keep _ _ HB.out (fun hp => HKN.out _ (.inl hp) rfl)
  have c1 : w1.cell? ⟨w.heap.size, 1, none⟩ = some (.string nm) := by rw [h1.cell hb1]; rfl
  have c2 : w1.cell? ⟨w.heap.size, 2, none⟩ = some (.string to) := by rw [h1.cell hb1]; rfl
  have c3 : w1.cell? ⟨w.heap.size, 3, none⟩ = some (.int .i64 id) := by rw [h1.cell hb1]; rfl
  have c4 : w1.cell? ⟨w.heap.size, 4, none⟩ = some (.int .i64 n) := by rw [h1.cell hb1]; rfl
  have c5 : w1.cell? ⟨w.heap.size, 5, none⟩ = some bv := by rw [h1.cell hb1]; rfl
  have blt := h1.lt hb1
  have N1 := Lib.hid (N0.out.trans n1)
  have H1 := Lib.hid h1
  have MID := Lib.hid mid
  have HA := Lib.hid ha
  clear h1 n1 o1 mid ha HO hb1
  go_wp2_with fail
  refine (create_ref rb nm n r w1 m1 H1.out MID.out.rf (by omega)).mono ?_
  rintro e w2 ⟨u, z, m2, rfl, h2, n2, o2⟩
  rw [HF2.out] at o2
  obtain ⟨r2, t2, fr, hz, hu, _⟩ := MID.out.snd o2 HA.out
  simp only at hz hu
  subst hz hu
  have R := Lib.hid (show DoesR w m sb rb g r a1 (.returned (.bool true)) w2 from ⟨m2, g1, r2, rfl, h2, N1.out.trans n2, t2, HA.out, FR0.out.trans fr⟩)
  clear h2 n2 o2 t2 fr
  go_wp2_with fail
  go_ret
  exact R.out

set_option maxHeartbeats 2000000 in
set_option maxRecDepth 100000 in
theorem does_open (sb rb : Nat) (nm to : ByteArray) (id n : Int) (bv : Value) (bs : List UInt8) (g : G) (r : RG) (w : World) (m : Mem) (hm : Has w m) (h : Two m sb rb g r) (hG : GlobOk m) (h0 : ¬ PP sb rb g r 0) (hn : g.n ≤ 9998) :
    Calls Tryz.prog 20 #[.pointer (some ⟨sb, 0, none⟩), .pointer (some ⟨rb, 0, none⟩), .agg #[.int .i64 2, .string nm, .string to, .int .i64 id, .int .i64 n, bv]] w (DoesR w m sb rb g r (g.abs.openF nm n).1) := by
  have hfr := hm.fresh (Nat.le_refl w.heap.size)
  have L := Mem.le_set m (.cells #[.int .i64 2, .string nm, .string to, .int .i64 id, .int .i64 n, bv] 28) hfr
  have HM := Lib.hid (hm.alloc (.cells #[.int .i64 2, .string nm, .string to, .int .i64 id, .int .i64 n, bv] 28))
  have hkn : ∀ b, PP sb rb g r b → b ≠ w.heap.size := fun b hb e => by
    obtain ⟨o, ho⟩ := h.known hb
    rw [e, hfr] at ho; cases ho
  have h' := h.le L
  have hb : (m.set w.heap.size (.cells #[.int .i64 2, .string nm, .string to, .int .i64 id, .int .i64 n, bv] 28)) w.heap.size = some (.cells #[.int .i64 2, .string nm, .string to, .int .i64 id, .int .i64 n, bv] 28) := Mem.set_same _ _ _
  have hG' := hG.le L
  have FR0 := Lib.hid (Fr.of_le L (PP sb rb g r))
  obtain ⟨m', hm'⟩ : ∃ m', m.set w.heap.size (.cells #[.int .i64 2, .string nm, .string to, .int .i64 id, .int .i64 n, bv] 28) = m' := ⟨_, rfl⟩
  rw [hm'] at HM FR0
  have HT := Lib.hid h'
  rw [hm'] at HT
  have HB := Lib.hid hb
  rw [hm'] at HB
  have HKN := Lib.hid hkn
  rw [hm'] at hG' L
  have n0 : Env w (w.alloc (.cells #[.int .i64 2, .string nm, .string to, .int .i64 id, .int .i64 n, bv] 28)) := (Env.refl w).alloc _
  have N0 := Lib.hid n0
  have HO := Lib.hid (open_any sb nm n g _ m' HM.out HT.out.st hG' (fun x => h0 (.inl x)) (by omega))
  obtain ⟨F, hF⟩ : ∃ F, g.abs.openF nm n = F := ⟨_, rfl⟩
  have hF2 : r.abs.openF nm n = F := by rw [h.eq]; exact hF
  rw [hF] at HO
  rw [hF]
  have HF2 := Lib.hid hF2
  have hn2 : r.n ≤ 9998 := by rw [h.n]; exact hn
  clear hm h hG h0 hF hF2 h' hb hm' hkn n0 hfr L hG'
  obtain ⟨a1, x, i⟩ := F
  go_enter Tryz.func20, Tryz.ntmps20
  go_wp2_with fail
  refine HO.out.mono ?_
  rintro e w1 ⟨v, y, m1, rfl, h1, n1, o1⟩
  obtain ⟨g1, mid, ha, hx, hv⟩ := HT.out.fst o1
  simp only at ha hx hv
  subst hx hv
  have hb1 : m1 w.heap.size = some (.cells #[.int .i64 2, .string nm, .string to, .int .i64 id, .int .i64 n, bv] 28) := mid.fr.keep _ _ HB.out (fun hp => HKN.out _ (.inl hp) rfl)
  have c1 : w1.cell? ⟨w.heap.size, 1, none⟩ = some (.string nm) := by rw [h1.cell hb1]; rfl
  have c2 : w1.cell? ⟨w.heap.size, 2, none⟩ = some (.string to) := by rw [h1.cell hb1]; rfl
  have c3 : w1.cell? ⟨w.heap.size, 3, none⟩ = some (.int .i64 id) := by rw [h1.cell hb1]; rfl
  have c4 : w1.cell? ⟨w.heap.size, 4, none⟩ = some (.int .i64 n) := by rw [h1.cell hb1]; rfl
  have c5 : w1.cell? ⟨w.heap.size, 5, none⟩ = some bv := by rw [h1.cell hb1]; rfl
  have blt := h1.lt hb1
  have N1 := Lib.hid (N0.out.trans n1)
  have H1 := Lib.hid h1
  have MID := Lib.hid mid
  have HA := Lib.hid ha
  clear h1 n1 o1 mid ha HO hb1
  go_wp2_with fail
  refine (open_ref rb nm n r w1 m1 H1.out MID.out.rf (by omega)).mono ?_
  rintro e w2 ⟨u, z, m2, rfl, h2, n2, o2⟩
  rw [HF2.out] at o2
  obtain ⟨r2, t2, fr, hz, hu, _⟩ := MID.out.snd o2 HA.out
  simp only at hz hu
  subst hz hu
  have R := Lib.hid (show DoesR w m sb rb g r a1 (.returned (.bool true)) w2 from ⟨m2, g1, r2, rfl, h2, N1.out.trans n2, t2, HA.out, FR0.out.trans fr⟩)
  clear h2 n2 o2 t2 fr
  go_wp2_with fail
  go_ret
  exact R.out

set_option maxHeartbeats 2000000 in
set_option maxRecDepth 100000 in
theorem does_status (sb rb : Nat) (nm to : ByteArray) (id n : Int) (bv : Value) (bs : List UInt8) (g : G) (r : RG) (w : World) (m : Mem) (hm : Has w m) (h : Two m sb rb g r) (hG : GlobOk m) (h0 : ¬ PP sb rb g r 0) (hn : g.n ≤ 9998) :
    Calls Tryz.prog 20 #[.pointer (some ⟨sb, 0, none⟩), .pointer (some ⟨rb, 0, none⟩), .agg #[.int .i64 6, .string nm, .string to, .int .i64 id, .int .i64 n, bv]] w (DoesR w m sb rb g r (g.abs.statusF nm).1) := by
  have hfr := hm.fresh (Nat.le_refl w.heap.size)
  have L := Mem.le_set m (.cells #[.int .i64 6, .string nm, .string to, .int .i64 id, .int .i64 n, bv] 28) hfr
  have HM := Lib.hid (hm.alloc (.cells #[.int .i64 6, .string nm, .string to, .int .i64 id, .int .i64 n, bv] 28))
  have hkn : ∀ b, PP sb rb g r b → b ≠ w.heap.size := fun b hb e => by
    obtain ⟨o, ho⟩ := h.known hb
    rw [e, hfr] at ho; cases ho
  have h' := h.le L
  have hb : (m.set w.heap.size (.cells #[.int .i64 6, .string nm, .string to, .int .i64 id, .int .i64 n, bv] 28)) w.heap.size = some (.cells #[.int .i64 6, .string nm, .string to, .int .i64 id, .int .i64 n, bv] 28) := Mem.set_same _ _ _
  have hG' := hG.le L
  have FR0 := Lib.hid (Fr.of_le L (PP sb rb g r))
  obtain ⟨m', hm'⟩ : ∃ m', m.set w.heap.size (.cells #[.int .i64 6, .string nm, .string to, .int .i64 id, .int .i64 n, bv] 28) = m' := ⟨_, rfl⟩
  rw [hm'] at HM FR0
  have HT := Lib.hid h'
  rw [hm'] at HT
  have HB := Lib.hid hb
  rw [hm'] at HB
  have HKN := Lib.hid hkn
  rw [hm'] at hG' L
  have n0 : Env w (w.alloc (.cells #[.int .i64 6, .string nm, .string to, .int .i64 id, .int .i64 n, bv] 28)) := (Env.refl w).alloc _
  have N0 := Lib.hid n0
  have HO := Lib.hid (status_any sb nm g _ m' HM.out HT.out.st hG' (fun x => h0 (.inl x)) (by omega))
  obtain ⟨F, hF⟩ : ∃ F, g.abs.statusF nm = F := ⟨_, rfl⟩
  have hF2 : r.abs.statusF nm = F := by rw [h.eq]; exact hF
  rw [hF] at HO
  rw [hF]
  have HF2 := Lib.hid hF2
  have hn2 : r.n ≤ 9998 := by rw [h.n]; exact hn
  clear hm h hG h0 hF hF2 h' hb hm' hkn n0 hfr L hG'
  obtain ⟨a1, x, i⟩ := F
  go_enter Tryz.func20, Tryz.ntmps20
  go_wp2_with fail
  refine HO.out.mono ?_
  rintro e w1 ⟨v, y, m1, rfl, h1, n1, o1⟩
  obtain ⟨g1, mid, ha, hx, hv⟩ := HT.out.fst o1
  simp only at ha hx hv
  subst hx hv
  have hb1 : m1 w.heap.size = some (.cells #[.int .i64 6, .string nm, .string to, .int .i64 id, .int .i64 n, bv] 28) := mid.fr.keep _ _ HB.out (fun hp => HKN.out _ (.inl hp) rfl)
  have c1 : w1.cell? ⟨w.heap.size, 1, none⟩ = some (.string nm) := by rw [h1.cell hb1]; rfl
  have c2 : w1.cell? ⟨w.heap.size, 2, none⟩ = some (.string to) := by rw [h1.cell hb1]; rfl
  have c3 : w1.cell? ⟨w.heap.size, 3, none⟩ = some (.int .i64 id) := by rw [h1.cell hb1]; rfl
  have c4 : w1.cell? ⟨w.heap.size, 4, none⟩ = some (.int .i64 n) := by rw [h1.cell hb1]; rfl
  have c5 : w1.cell? ⟨w.heap.size, 5, none⟩ = some bv := by rw [h1.cell hb1]; rfl
  have blt := h1.lt hb1
  have N1 := Lib.hid (N0.out.trans n1)
  have H1 := Lib.hid h1
  have MID := Lib.hid mid
  have HA := Lib.hid ha
  clear h1 n1 o1 mid ha HO hb1
  go_wp2_with fail
  refine (status_ref rb nm r w1 m1 H1.out MID.out.rf (by omega)).mono ?_
  rintro e w2 ⟨u, z, m2, rfl, h2, n2, o2⟩
  rw [HF2.out] at o2
  obtain ⟨r2, t2, fr, hz, hu, _⟩ := MID.out.snd o2 HA.out
  simp only at hz hu
  subst hz hu
  have R := Lib.hid (show DoesR w m sb rb g r a1 (.returned (.bool true)) w2 from ⟨m2, g1, r2, rfl, h2, N1.out.trans n2, t2, HA.out, FR0.out.trans fr⟩)
  clear h2 n2 o2 t2 fr
  go_wp2_with fail
  go_ret
  exact R.out

set_option maxHeartbeats 2000000 in
set_option maxRecDepth 100000 in
theorem does_size (sb rb : Nat) (nm to : ByteArray) (id n : Int) (bv : Value) (bs : List UInt8) (g : G) (r : RG) (w : World) (m : Mem) (hm : Has w m) (h : Two m sb rb g r) (hG : GlobOk m) (h0 : ¬ PP sb rb g r 0) (hn : g.n ≤ 9998) :
    Calls Tryz.prog 20 #[.pointer (some ⟨sb, 0, none⟩), .pointer (some ⟨rb, 0, none⟩), .agg #[.int .i64 7, .string nm, .string to, .int .i64 id, .int .i64 n, bv]] w (DoesR w m sb rb g r (g.abs.withA id 0 sizeF).1) := by
  have hfr := hm.fresh (Nat.le_refl w.heap.size)
  have L := Mem.le_set m (.cells #[.int .i64 7, .string nm, .string to, .int .i64 id, .int .i64 n, bv] 28) hfr
  have HM := Lib.hid (hm.alloc (.cells #[.int .i64 7, .string nm, .string to, .int .i64 id, .int .i64 n, bv] 28))
  have hkn : ∀ b, PP sb rb g r b → b ≠ w.heap.size := fun b hb e => by
    obtain ⟨o, ho⟩ := h.known hb
    rw [e, hfr] at ho; cases ho
  have h' := h.le L
  have hb : (m.set w.heap.size (.cells #[.int .i64 7, .string nm, .string to, .int .i64 id, .int .i64 n, bv] 28)) w.heap.size = some (.cells #[.int .i64 7, .string nm, .string to, .int .i64 id, .int .i64 n, bv] 28) := Mem.set_same _ _ _
  have hG' := hG.le L
  have FR0 := Lib.hid (Fr.of_le L (PP sb rb g r))
  obtain ⟨m', hm'⟩ : ∃ m', m.set w.heap.size (.cells #[.int .i64 7, .string nm, .string to, .int .i64 id, .int .i64 n, bv] 28) = m' := ⟨_, rfl⟩
  rw [hm'] at HM FR0
  have HT := Lib.hid h'
  rw [hm'] at HT
  have HB := Lib.hid hb
  rw [hm'] at HB
  have HKN := Lib.hid hkn
  rw [hm'] at hG' L
  have n0 : Env w (w.alloc (.cells #[.int .i64 7, .string nm, .string to, .int .i64 id, .int .i64 n, bv] 28)) := (Env.refl w).alloc _
  have N0 := Lib.hid n0
  have HO := Lib.hid (opsize_any sb id g _ m' HM.out HT.out.st hG' (fun x => h0 (.inl x)) (by omega))
  obtain ⟨F, hF⟩ : ∃ F, g.abs.withA id 0 sizeF = F := ⟨_, rfl⟩
  have hF2 : r.abs.withA id 0 sizeF = F := by rw [h.eq]; exact hF
  rw [hF] at HO
  rw [hF]
  have HF2 := Lib.hid hF2
  have hn2 : r.n ≤ 9998 := by rw [h.n]; exact hn
  clear hm h hG h0 hF hF2 h' hb hm' hkn n0 hfr L hG'
  obtain ⟨a1, x, i⟩ := F
  go_enter Tryz.func20, Tryz.ntmps20
  go_wp2_with fail
  refine HO.out.mono ?_
  rintro e w1 ⟨v, y, m1, rfl, h1, n1, o1⟩
  obtain ⟨g1, mid, ha, hx, hv⟩ := HT.out.fst o1
  simp only at ha hx hv
  subst hx hv
  have hb1 : m1 w.heap.size = some (.cells #[.int .i64 7, .string nm, .string to, .int .i64 id, .int .i64 n, bv] 28) := mid.fr.keep _ _ HB.out (fun hp => HKN.out _ (.inl hp) rfl)
  have c1 : w1.cell? ⟨w.heap.size, 1, none⟩ = some (.string nm) := by rw [h1.cell hb1]; rfl
  have c2 : w1.cell? ⟨w.heap.size, 2, none⟩ = some (.string to) := by rw [h1.cell hb1]; rfl
  have c3 : w1.cell? ⟨w.heap.size, 3, none⟩ = some (.int .i64 id) := by rw [h1.cell hb1]; rfl
  have c4 : w1.cell? ⟨w.heap.size, 4, none⟩ = some (.int .i64 n) := by rw [h1.cell hb1]; rfl
  have c5 : w1.cell? ⟨w.heap.size, 5, none⟩ = some bv := by rw [h1.cell hb1]; rfl
  have blt := h1.lt hb1
  have N1 := Lib.hid (N0.out.trans n1)
  have H1 := Lib.hid h1
  have MID := Lib.hid mid
  have HA := Lib.hid ha
  clear h1 n1 o1 mid ha HO hb1
  go_wp2_with fail
  refine (size_ref rb id r w1 m1 H1.out MID.out.rf (by omega)).mono ?_
  rintro e w2 ⟨u, z, m2, rfl, h2, n2, o2⟩
  rw [HF2.out] at o2
  obtain ⟨r2, t2, fr, hz, hu, _⟩ := MID.out.snd o2 HA.out
  simp only at hz hu
  subst hz hu
  have R := Lib.hid (show DoesR w m sb rb g r a1 (.returned (.bool true)) w2 from ⟨m2, g1, r2, rfl, h2, N1.out.trans n2, t2, HA.out, FR0.out.trans fr⟩)
  clear h2 n2 o2 t2 fr
  go_wp2_with fail
  go_ret
  exact R.out

set_option maxHeartbeats 2000000 in
set_option maxRecDepth 100000 in
theorem does_position (sb rb : Nat) (nm to : ByteArray) (id n : Int) (bv : Value) (bs : List UInt8) (g : G) (r : RG) (w : World) (m : Mem) (hm : Has w m) (h : Two m sb rb g r) (hG : GlobOk m) (h0 : ¬ PP sb rb g r 0) (hn : g.n ≤ 9998) :
    Calls Tryz.prog 20 #[.pointer (some ⟨sb, 0, none⟩), .pointer (some ⟨rb, 0, none⟩), .agg #[.int .i64 8, .string nm, .string to, .int .i64 id, .int .i64 n, bv]] w (DoesR w m sb rb g r (g.abs.withA id 0 posF).1) := by
  have hfr := hm.fresh (Nat.le_refl w.heap.size)
  have L := Mem.le_set m (.cells #[.int .i64 8, .string nm, .string to, .int .i64 id, .int .i64 n, bv] 28) hfr
  have HM := Lib.hid (hm.alloc (.cells #[.int .i64 8, .string nm, .string to, .int .i64 id, .int .i64 n, bv] 28))
  have hkn : ∀ b, PP sb rb g r b → b ≠ w.heap.size := fun b hb e => by
    obtain ⟨o, ho⟩ := h.known hb
    rw [e, hfr] at ho; cases ho
  have h' := h.le L
  have hb : (m.set w.heap.size (.cells #[.int .i64 8, .string nm, .string to, .int .i64 id, .int .i64 n, bv] 28)) w.heap.size = some (.cells #[.int .i64 8, .string nm, .string to, .int .i64 id, .int .i64 n, bv] 28) := Mem.set_same _ _ _
  have hG' := hG.le L
  have FR0 := Lib.hid (Fr.of_le L (PP sb rb g r))
  obtain ⟨m', hm'⟩ : ∃ m', m.set w.heap.size (.cells #[.int .i64 8, .string nm, .string to, .int .i64 id, .int .i64 n, bv] 28) = m' := ⟨_, rfl⟩
  rw [hm'] at HM FR0
  have HT := Lib.hid h'
  rw [hm'] at HT
  have HB := Lib.hid hb
  rw [hm'] at HB
  have HKN := Lib.hid hkn
  rw [hm'] at hG' L
  have n0 : Env w (w.alloc (.cells #[.int .i64 8, .string nm, .string to, .int .i64 id, .int .i64 n, bv] 28)) := (Env.refl w).alloc _
  have N0 := Lib.hid n0
  have HO := Lib.hid (pos_any sb id g _ m' HM.out HT.out.st hG' (fun x => h0 (.inl x)) (by omega))
  obtain ⟨F, hF⟩ : ∃ F, g.abs.withA id 0 posF = F := ⟨_, rfl⟩
  have hF2 : r.abs.withA id 0 posF = F := by rw [h.eq]; exact hF
  rw [hF] at HO
  rw [hF]
  have HF2 := Lib.hid hF2
  have hn2 : r.n ≤ 9998 := by rw [h.n]; exact hn
  clear hm h hG h0 hF hF2 h' hb hm' hkn n0 hfr L hG'
  obtain ⟨a1, x, i⟩ := F
  go_enter Tryz.func20, Tryz.ntmps20
  go_wp2_with fail
  refine HO.out.mono ?_
  rintro e w1 ⟨v, y, m1, rfl, h1, n1, o1⟩
  obtain ⟨g1, mid, ha, hx, hv⟩ := HT.out.fst o1
  simp only at ha hx hv
  subst hx hv
  have hb1 : m1 w.heap.size = some (.cells #[.int .i64 8, .string nm, .string to, .int .i64 id, .int .i64 n, bv] 28) := mid.fr.keep _ _ HB.out (fun hp => HKN.out _ (.inl hp) rfl)
  have c1 : w1.cell? ⟨w.heap.size, 1, none⟩ = some (.string nm) := by rw [h1.cell hb1]; rfl
  have c2 : w1.cell? ⟨w.heap.size, 2, none⟩ = some (.string to) := by rw [h1.cell hb1]; rfl
  have c3 : w1.cell? ⟨w.heap.size, 3, none⟩ = some (.int .i64 id) := by rw [h1.cell hb1]; rfl
  have c4 : w1.cell? ⟨w.heap.size, 4, none⟩ = some (.int .i64 n) := by rw [h1.cell hb1]; rfl
  have c5 : w1.cell? ⟨w.heap.size, 5, none⟩ = some bv := by rw [h1.cell hb1]; rfl
  have blt := h1.lt hb1
  have N1 := Lib.hid (N0.out.trans n1)
  have H1 := Lib.hid h1
  have MID := Lib.hid mid
  have HA := Lib.hid ha
  clear h1 n1 o1 mid ha HO hb1
  go_wp2_with fail
  refine (pos_ref rb id r w1 m1 H1.out MID.out.rf (by omega)).mono ?_
  rintro e w2 ⟨u, z, m2, rfl, h2, n2, o2⟩
  rw [HF2.out] at o2
  obtain ⟨r2, t2, fr, hz, hu, _⟩ := MID.out.snd o2 HA.out
  simp only at hz hu
  subst hz hu
  have R := Lib.hid (show DoesR w m sb rb g r a1 (.returned (.bool true)) w2 from ⟨m2, g1, r2, rfl, h2, N1.out.trans n2, t2, HA.out, FR0.out.trans fr⟩)
  clear h2 n2 o2 t2 fr
  go_wp2_with fail
  go_ret
  exact R.out

end Go.Proofs.YtcdmdkgiabfbeaaGreatDoor

/-
  Resize.
-/
namespace Go.Proofs.YtcdmdkgiabfbeaaGreatDoor
open Go.RowKit

def resizeX (h : H3) (n : Int) : Int := if h.2.1 = 1 then -20 else if n < 0 then -36 else if 262144 < n then -8 else 0
def resizeF (n : Int) (t : A) (h : H3) (_ : Fail3) : A × Int × Unit :=
  if resizeX h n ≠ 0 then (t, resizeX h n, ()) else (t.setF h.1 (resz (t.bytes h.1) n.toNat), 0, ())

set_option maxHeartbeats 1000000 in
theorem resize11_any (p : Nat) (n : Int) (w : World) (m : Mem) (hm : Has w m) (hp : BoxI m p n) :
    Calls Tryz.prog 96 #[.pointer (some ⟨p, 0, none⟩)] w (Post w m fun v _ => v = .bool (decide (n < 0))) := by
  have c0 : w.cell? ⟨p, 0, none⟩ = some (.int .i64 n) := by rw [hm.cell hp]; rfl
  have H := Lib.hid hm
  clear hm hp
  go_enter Tryz.func96, Tryz.ntmps96
  go_wp2_with fail
  go_ret
  exact Post.mk m (Mem.le_refl _) H.out (Env.refl w) rfl
set_option maxHeartbeats 1000000 in
theorem resize12_any (p : Nat) (n : Int) (w : World) (m : Mem) (hm : Has w m) (hp : BoxI m p n) :
    Calls Tryz.prog 97 #[.pointer (some ⟨p, 0, none⟩)] w (Post w m fun v _ => v = .bool (decide (262144 < n))) := by
  have c0 : w.cell? ⟨p, 0, none⟩ = some (.int .i64 n) := by rw [hm.cell hp]; rfl
  have H := Lib.hid hm
  clear hm hp
  go_enter Tryz.func97, Tryz.ntmps97
  go_wp2_with fail
  go_ret
  exact Post.mk m (Mem.le_refl _) H.out (Env.refl w) rfl
theorem enters_resize11 : Enters 96 := fun _ _ => by kernel_rfl
theorem enters_resize12 : Enters 97 := fun _ _ => by kernel_rfl
theorem enters_resize1 : Enters 95 := fun _ _ => by kernel_rfl

theorem firstOf_resize (c d : Value) (h : H3) (n : Int) : firstOf (if h.2.1 = 1 then -20 else 0) [(c, -36, decide (n < 0)), (d, -8, decide (262144 < n))] = resizeX h n := by
  unfold resizeX firstOf firstOf firstOf
  by_cases h1 : h.2.1 = 1
  · simp [h1]
  · by_cases h2 : n < 0
    · simp [h1, h2]
    · by_cases h3 : 262144 < n
      · simp [h1, h2, h3]
      · simp [h1, h2, h3]

set_option maxHeartbeats 8000000 in
theorem resize1_any (sb k p : Nat) (g : G) (h : Hnd) (n : Int) (fl : Fail3) (w : World) (m : Mem) (hm : Has w m) (hr : SRep m sb g) (hk : g.O[k]? = some (some h)) (hp : BoxI m p n) :
    Calls Tryz.prog 95 #[.pointer (some ⟨h.ob, 0, none⟩), failV fl, .pointer (some ⟨p, 0, none⟩)] w
      (DoR w m sb g (fun _ => False) (resizeF n g.abs h.abs fl) (fun _ _ => True)) := by
  obtain ⟨e, he, hfb, hname, hlook⟩ := hr.fileOf hk
  have hob := hr.hnd h (List.mem_of_getElem? hk)
  have hrow := hr.row e he
  have hfile := hr.file e he
  rw [hfb] at hfile
  have hbs : g.abs.bytes h.name = e.bs := by unfold A.bytes; rw [hlook]; rfl
  have hsz := hr.bsz e he
  obtain ⟨f0, f1, fs⟩ := fl
  have hfr := hm.fresh (Nat.le_refl w.heap.size)
  have h1 := hm.alloc (.cells #[.int .i64 f0, .int .i64 f1, .int .i64 fs] 47)
  have l1 := Mem.le_set m (.cells #[.int .i64 f0, .int .i64 f1, .int .i64 fs] 47) hfr
  have HBS := Lib.hid hbs
  have HROW := Lib.hid hrow
  have HFILE := Lib.hid hfile
  have HR := Lib.hid hr
  have HK := Lib.hid hk
  have HP := Lib.hid hp
  have HOB := Lib.hid hob
  have HE := Lib.hid he
  have HFB := Lib.hid hfb
  have HNM := Lib.hid hname
  have HA := Lib.hid h1
  have LA := Lib.hid l1
  have NA := Lib.hid ((Env.refl w).alloc (.cells #[.int .i64 f0, .int .i64 f1, .int .i64 fs] 47))
  clear hm hr hob hrow hfile hbs hlook hp he hname hfb h1 l1 hfr hk
  simp only [failV]
  go_enter Tryz.func95, Tryz.ntmps95
  go_wp2_with fail
  refine (not_any h.ob h.fb h.mode h.pos 1 _ _ HA.out (LA.out _ _ HOB.out)).mono ?_
  rintro e1 w2 ⟨v, m2, rfl, l2, h2, n2, hv⟩
  have HV := Lib.hid hv
  have LL := Lib.hid (Mem.le_trans LA.out l2)
  have H2 := Lib.hid h2
  have N2 := Lib.hid (NA.out.trans n2)
  clear hv l2 h2 n2
  go_wp2_with fail
  refine (when_any (-36) _ _ (decide (n < 0)) _ _ H2.out ⟨_, _, rfl, enters_resize11, fun w1 m1 l h1 => resize11_any p n w1 m1 h1 (l _ _ (LL.out _ _ HP.out))⟩).mono ?_
  rintro e1 w3 ⟨c, m3, rfl, l3, h3, n3, hc⟩
  have LL3 := Lib.hid (Mem.le_trans LL.out l3)
  have HV3 := Lib.hid (HV.out.le l3)
  have H3 := Lib.hid h3
  have N3 := Lib.hid (N2.out.trans n3)
  obtain ⟨cp, cq, ci, hcv, _⟩ := hc.imp (fun _ h => h)
  have HC := Lib.hid hc
  clear hc l3 h3 n3
  subst hcv
  go_wp2_with fail
  refine (when_any (-8) _ _ (decide (262144 < n)) _ _ H3.out ⟨_, _, rfl, enters_resize12, fun w1 m1 l h1 => resize12_any p n w1 m1 h1 (l _ _ (LL3.out _ _ HP.out))⟩).mono ?_
  rintro e1 w3b ⟨d, m3b, rfl, l3, h3, n3, hd⟩
  have LL3 := Lib.hid (Mem.le_trans LL3.out l3)
  have HV3 := Lib.hid (HV3.out.le l3)
  have HC := Lib.hid (HC.out.le l3)
  have H3 := Lib.hid h3
  have N3 := Lib.hid (N3.out.trans n3)
  obtain ⟨dp, dq, di, hdv, _⟩ := hd.imp (fun _ h => h)
  have HD := Lib.hid hd
  clear hd l3 h3 n3
  subst hdv
  go_wp2_with fail
  have hal := H3.out.alloc (.cells #[.func (.func 78) #[] #[.pointer (some ⟨cp, 0, none⟩), .pointer (some ⟨cq, 0, none⟩)], .func (.func 78) #[] #[.pointer (some ⟨dp, 0, none⟩), .pointer (some ⟨dq, 0, none⟩)]] 74)
  have lal := Mem.le_set m3b (.cells #[.func (.func 78) #[] #[.pointer (some ⟨cp, 0, none⟩), .pointer (some ⟨cq, 0, none⟩)], .func (.func 78) #[] #[.pointer (some ⟨dp, 0, none⟩), .pointer (some ⟨dq, 0, none⟩)]] 74) (H3.out.fresh (Nat.le_refl _))
  refine (first_any v _ w3b.heap.size [(.func (.func 78) #[] #[.pointer (some ⟨cp, 0, none⟩), .pointer (some ⟨cq, 0, none⟩)], -36, decide (n < 0)), (.func (.func 78) #[] #[.pointer (some ⟨dp, 0, none⟩), .pointer (some ⟨dq, 0, none⟩)], -8, decide (262144 < n))] _ _ hal (HV3.out.le lal) (Mem.set_same _ _ _)
    (fun c hc => by
      simp only [List.mem_cons, List.not_mem_nil, or_false] at hc
      rcases hc with rfl | rfl
      · exact ⟨HC.out.le lal, show (-36 : Int) ≠ 0 by decide⟩
      · exact ⟨HD.out.le lal, show (-8 : Int) ≠ 0 by decide⟩) (by simp)).mono ?_
  rintro e1 w4 ⟨v4, m4, rfl, l4, h4, n4, hv4⟩
  have hw4 := firstOf_resize (.func (.func 78) #[] #[.pointer (some ⟨cp, 0, none⟩), .pointer (some ⟨cq, 0, none⟩)]) (.func (.func 78) #[] #[.pointer (some ⟨dp, 0, none⟩), .pointer (some ⟨dq, 0, none⟩)]) h.abs n
  change firstOf (if h.mode = 1 then -20 else 0) _ = _ at hw4
  rw [hw4] at hv4
  have HV4 := Lib.hid hv4
  have LL4 := Lib.hid (Mem.le_trans LL3.out (Mem.le_trans lal l4))
  have H4 := Lib.hid h4
  have N4 := Lib.hid (((N3.out.alloc (.cells #[.func (.func 78) #[] #[.pointer (some ⟨cp, 0, none⟩), .pointer (some ⟨cq, 0, none⟩)], .func (.func 78) #[] #[.pointer (some ⟨dp, 0, none⟩), .pointer (some ⟨dq, 0, none⟩)]] 74))).trans n4)
  clear hal lal l4 h4 n4 hv4 hw4
  by_cases hx : resizeX h.abs n = 0
  · obtain rfl : v4 = .nilIface := by
      rcases HV4.out with ⟨_, h⟩ | ⟨h, _⟩
      · exact h
      · exact absurd hx h
    obtain ⟨hn0, hn1⟩ : 0 ≤ n ∧ n ≤ 262144 := by
      unfold resizeX at hx
      change (if h.mode = 1 then (-20 : Int) else if n < 0 then -36 else if 262144 < n then -8 else 0) = 0 at hx
      by_cases h1 : h.mode = 1
      · rw [if_pos h1] at hx; omega
      · by_cases h2 : n < 0
        · rw [if_neg h1, if_pos h2] at hx; omega
        · by_cases h3 : 262144 < n
          · rw [if_neg h1, if_neg h2, if_pos h3] at hx; omega
          · omega
    obtain ⟨kk, rfl⟩ : ∃ kk : Nat, n = (kk : Int) := ⟨n.toNat, by omega⟩
    have hkl : kk ≤ 262144 := by omega
    have HX := Lib.hid hx
    have HKL := Lib.hid hkl
    have d1 : w4.cell? ⟨h.ob, 0, none⟩ = some (.pointer (some ⟨h.fb, 0, none⟩)) := by rw [H4.out.cell (LL4.out _ _ HOB.out)]; rfl
    have d4 : w4.cell? ⟨p, 0, none⟩ = some (.int .i64 kk) := by rw [H4.out.cell (LL4.out _ _ HP.out)]; rfl
    clear hx hkl
    go_wp2_with fail
    refine wp_region_K 5 (fun w' => w'.cell? ⟨h.ob, 0, none⟩ = some (.pointer (some ⟨h.fb, 0, none⟩)) ∧ w'.cell? ⟨p, 0, none⟩ = some (.int .i64 kk)) (by kernel_rfl) ?_
    have hS : (fun w' : World => w'.cell? ⟨h.ob, 0, none⟩ = some (.pointer (some ⟨h.fb, 0, none⟩)) ∧ w'.cell? ⟨p, 0, none⟩ = some (.int .i64 kk)) w4.drew := ⟨d1, d4⟩
    refine wpAnyK_take (i := 0) (v := ?_) rfl (by kernel_rfl) (by kernel_rfl) (by kernel_rfl) (by kernel_rfl) (fun _ _ _ h => h) (Or.inl ⟨by rfl, ?_⟩) hS ?_
    rotate_left
    · intro w0 hS0; obtain ⟨q0, q1⟩ := hS0; go_simp; try with_reducible rfl
    simp only [Act.put, List.setIfInBounds_toArray, List.set_cons_zero, List.set_cons_succ, List.getElem_toArray, List.getElem_cons_succ, List.getElem_cons_zero]
    refine wpAnyK_take (i := 1) (v := ?_) rfl (by kernel_rfl) (by kernel_rfl) (by kernel_rfl) (by kernel_rfl) (fun _ _ _ h => h) (Or.inl ⟨by rfl, ?_⟩) hS ?_
    rotate_left
    · intro w0 hS0; obtain ⟨q0, q1⟩ := hS0; go_simp; try with_reducible rfl
    simp only [Act.put, List.setIfInBounds_toArray, List.set_cons_zero, List.set_cons_succ, List.getElem_toArray, List.getElem_cons_succ, List.getElem_cons_zero]
    refine wpAnyK_take (i := 2) (v := ?_) rfl (by kernel_rfl) (by kernel_rfl) (by kernel_rfl) (by kernel_rfl) (fun _ _ _ h => h) (Or.inl ⟨by rfl, ?_⟩) hS ?_
    rotate_left
    · intro w0 hS0; obtain ⟨q0, q1⟩ := hS0; go_simp; try with_reducible rfl
    simp only [Act.put, List.setIfInBounds_toArray, List.set_cons_zero, List.set_cons_succ, List.getElem_toArray, List.getElem_cons_succ, List.getElem_cons_zero]
    refine wpAnyK_take (i := 3) (v := ?_) rfl (by kernel_rfl) (by kernel_rfl) (by kernel_rfl) (by kernel_rfl) (fun _ _ _ h => h) (Or.inl ⟨by rfl, ?_⟩) hS ?_
    rotate_left
    · intro w0 hS0; obtain ⟨q0, q1⟩ := hS0; go_simp; try with_reducible rfl
    simp only [Act.put, List.setIfInBounds_toArray, List.set_cons_zero, List.set_cons_succ, List.getElem_toArray, List.getElem_cons_succ, List.getElem_cons_zero]
    refine wpAnyK_take (i := 4) (v := ?_) rfl (by kernel_rfl) (by kernel_rfl) (by kernel_rfl) (by kernel_rfl) (fun _ _ _ h => h) (Or.inl ⟨by rfl, ?_⟩) hS ?_
    rotate_left
    · intro w0 hS0; obtain ⟨q0, q1⟩ := hS0; go_simp; try with_reducible rfl
    simp only [Act.put, List.setIfInBounds_toArray, List.set_cons_zero, List.set_cons_succ, List.getElem_toArray, List.getElem_cons_succ, List.getElem_cons_zero]
    refine wpAnyK_one (i := 5) rfl (by kernel_rfl) rfl ?_
    go_simp
    refine (size_any h.fb e.bv e.bs kk w4.drew m4 H4.out.drew (LL4.out _ _ HFILE.out) (HROW.out.le LL4.out) HKL.out hsz).mono ?_
    rintro e1 w5 ⟨bv', m5, rfl, gr, h5, n5, row5⟩
    clear hS d1 d4
    have r4 := HR.out.le LL4.out
    rw [← HFB.out] at h5 row5
    have R5 := Lib.hid (r4.setF HE.out bv' (resz e.bs kk) gr (by rw [resz_length]; exact row5) (by rw [resz_length]; exact HKL.out))
    have F5 := Lib.hid ((Fr.of_le LL4.out (FP sb g)).trans (SRep.setF_fr (sb := sb) HE.out bv' (resz e.bs kk) gr (.cells #[bv'] 80 (0, 0))))
    have H5 := Lib.hid h5
    have N5 := Lib.hid (N4.out.drew.trans n5)
    clear r4 h5 n5 row5 gr
    refine wpAnyK_done (by kernel_rfl) ?_ _
    go_wp2_with fail
    go_ret
    have hF : resizeF (kk : Int) g.abs h.abs (f0, f1, fs) = (g.abs.setF h.name (resz e.bs kk), 0, ()) := by
      unfold resizeF
      rw [if_neg (fun c => c HX.out)]
      show (g.abs.setF h.name (resz (g.abs.bytes h.name) _), (0 : Int), ()) = _
      rw [HBS.out]; rfl
    rw [hF]
    exact ⟨.nilIface, 0, _, rfl, H5.out, N5.out, .inl ⟨rfl, rfl⟩, _, R5.out, F5.out.more _, by rw [abs_setF HR.out HE.out, HNM.out], rfl, trivial⟩
  · obtain ⟨b4, hb4⟩ : ∃ b, v4 = .iface 104 (.pointer (some ⟨b, 0, none⟩)) := by
      rcases HV4.out with ⟨h, _⟩ | ⟨_, b, h, _⟩
      · exact absurd h hx
      · exact ⟨b, h⟩
    subst hb4
    have HX := Lib.hid hx
    clear hx
    go_wp2_with fail
    go_ret
    have hF : resizeF n g.abs h.abs (f0, f1, fs) = (g.abs, resizeX h.abs n, ()) := by unfold resizeF; rw [if_pos HX.out]
    rw [hF]
    exact ⟨_, _, m4, rfl, H4.out, N4.out, HV4.out, g, HR.out.le LL4.out, (Fr.of_le LL4.out _).mono (fun b hb => .inl (.inl hb)), rfl, rfl, trivial⟩

set_option maxHeartbeats 1000000 in
theorem resize_any (sb : Nat) (id n : Int) (g : G) (w : World) (m : Mem) (hm : Has w m) (hr : SRep m sb g) (hG : GlobOk m) (h0 : ¬ FP sb g 0) (hn : g.n ≤ 999999) :
    Calls Tryz.prog 66 #[.pointer (some ⟨sb, 0, none⟩), .int .i64 id, .int .i64 n] w
      (Ans w (OpR m sb g (fun _ => False) (A.withA g.abs id () (resizeF n)) (fun _ _ => True))) := by
  have hfr := hm.fresh (Nat.le_refl w.heap.size)
  have h1 := hm.alloc (.cells #[.int .i64 n] 3)
  have l1 := Mem.le_set m (.cells #[.int .i64 n] 3) hfr
  have hW := with_op () (resizeF n) (fun _ _ => True) (fun _ => False) sb id g 95 #[.pointer (some ⟨w.heap.size, 0, none⟩)] _ _ h1 (hr.le l1) (hG.le l1) h0 (fun h => h) hn enters_resize1
    (fun k h hk hid w1 m1 l2 hw1 hr1 => by
      have hbox : BoxI m1 w.heap.size n := l2 _ _ (by
        rw [Mem.set_ne _ _ (Mem.ne_of_none hfr hr.store)]
        exact Mem.set_same _ _ _)
      exact resize1_any sb k w.heap.size g.tick h n g.now w1 m1 hw1 hr1 hk hbox)
    (fun _ _ => trivial)
  have HW := Lib.hid hW
  have L1 := Lib.hid l1
  clear hm hr hG h1 l1 hW hfr
  go_enter Tryz.func66, Tryz.ntmps66
  go_wp2_with fail
  refine HW.out.mono ?_
  rintro e w2 ⟨x, m2, rfl, h2, n2, hx⟩
  have H2 := Lib.hid h2
  have N2 := Lib.hid n2
  have HX := Lib.hid hx
  clear h2 n2 hx
  go_wp2_with fail
  go_ret
  exact ⟨x, m2, rfl, H2.out, ((Env.refl w).alloc _).trans N2.out, HX.out.ahead L1.out (fun _ h => h.elim) (fun _ => trivial)⟩
end Go.Proofs.YtcdmdkgiabfbeaaGreatDoor

/-
  The plain law of FilesBytes: what is written at a place is read at that place.
-/
namespace Go.Proofs.YtcdmdkgiabfbeaaGreatDoor
open Go.RowKit

/-- A store of one file, open for both under number 1 and for reading under number 2. -/
def StB (bs : List UInt8) (pa pb c : Nat) : A :=
  { look := fun t => if t = ⟨#[102]⟩ then some bs else none, count := 1, hnd := fun j => if j = 1 then some (⟨#[102]⟩, 1, pb) else if j = 0 then some (⟨#[102]⟩, 3, pa) else none, fails := [], n := c }
/-- .. open under number 1 alone. -/
def StA (c : Nat) : A :=
  { look := fun t => if t = ⟨#[102]⟩ then some [] else none, count := 1, hnd := fun j => if j = 0 then some (⟨#[102]⟩, 3, 0) else none, fails := [], n := c }

theorem fNm_okB : isNameB ⟨#[102]⟩ = true := by rw [isNameB_eq]; rfl

theorem StB_create : (A0 [] []).createF ⟨#[102]⟩ 3 = (StA 1, 0, 1) := by
  have h : (A0 [] []).createX ⟨#[102]⟩ 3 = 0 := by
    unfold A.createX
    rw [fNm_okB]
    rfl
  unfold A.createF
  rw [if_neg (fun c => c h)]
  rfl
theorem StB_open : (StA 1).openF ⟨#[102]⟩ 1 = (StB [] 0 0 2, 0, 2) := by
  have hl : ((StA 1).look ⟨#[102]⟩).isNone = false := by simp [StA]
  have h : (StA 1).openX ⟨#[102]⟩ 1 = 0 := by
    unfold A.openX
    rw [fNm_okB, hl]
    rfl
  unfold A.openF
  rw [if_neg (fun c => c h)]
  rfl

theorem StB_bytes (bs : List UInt8) (pa pb c : Nat) : (StB bs pa pb c).tick.bytes ⟨#[102]⟩ = bs := by
  show (if (⟨#[102]⟩ : ByteArray) = ⟨#[102]⟩ then some bs else none : Option (List UInt8)).getD [] = _
  rw [if_pos rfl]; rfl
theorem StB_setA (bs : List UInt8) (pa pb c p : Nat) : ((StB bs pa pb c).tick).setH 0 (some (⟨#[102]⟩, 3, p)) = StB bs p pb (c + 1) := by
  simp only [StB, A.tick, A.setH, A.mk.injEq, true_and, and_true]
  funext j
  by_cases h0 : j = 0
  · subst h0; simp
  · simp [h0]
theorem StB_setB (bs : List UInt8) (pa pb c p : Nat) : ((StB bs pa pb c).tick).setH 1 (some (⟨#[102]⟩, 1, p)) = StB bs pa p (c + 1) := by
  simp only [StB, A.tick, A.setH, A.mk.injEq, true_and, and_true]
  funext j
  by_cases h0 : j = 1
  · subst h0; simp
  · simp [h0]
theorem StB_setF (bs bs' : List UInt8) (pa pb c : Nat) : ((StB bs pa pb c).tick).setF ⟨#[102]⟩ bs' = (StB bs' pa pb c).tick := by
  simp only [StB, A.tick, A.setF, A.mk.injEq, and_true]
  funext t
  split <;> rfl

theorem StB_resize (bs : List UInt8) (pa pb c n : Nat) (hn : n ≤ 262144) : A.withA (StB bs pa pb c) 1 () (resizeF (n : Int)) = (StB (resz bs n) pa pb (c + 1), 0, ()) := by
  have h1 : A.withA (StB bs pa pb c) 1 () (resizeF (n : Int)) = resizeF (n : Int) (StB bs pa pb c).tick (⟨#[102]⟩, 3, pa) (0, 0, 0) := rfl
  have h2 : resizeX (⟨#[102]⟩, 3, pa) (n : Int) = 0 := by
    unfold resizeX
    rw [if_neg (show ¬ ((3 : Int) = 1) by decide), if_neg (by omega), if_neg (by omega)]
  rw [h1]
  unfold resizeF
  rw [if_neg (fun c => c h2), StB_bytes, StB_setF, show ((n : Int)).toNat = n from by omega]
  rfl
theorem StB_seekA (bs : List UInt8) (pa pb c n : Nat) (hn : n ≤ bs.length) : A.withA (StB bs pa pb c) 1 () (seekF (1 - 1 : Int).toNat (n : Int)) = (StB bs n pb (c + 1), 0, ()) := by
  have h1 : A.withA (StB bs pa pb c) 1 () (seekF (1 - 1 : Int).toNat (n : Int)) = seekF 0 (n : Int) (StB bs pa pb c).tick (⟨#[102]⟩, 3, pa) (0, 0, 0) := rfl
  rw [h1]
  unfold seekF
  rw [StB_bytes, if_neg (by omega), show ((n : Int)).toNat = n from by omega, StB_setA]
theorem StB_seekB (bs : List UInt8) (pa pb c : Nat) : A.withA (StB bs pa pb c) 2 () (seekF (2 - 1 : Int).toNat 0) = (StB bs pa 0 (c + 1), 0, ()) := by
  have h1 : A.withA (StB bs pa pb c) 2 () (seekF (2 - 1 : Int).toNat 0) = seekF 1 0 (StB bs pa pb c).tick (⟨#[102]⟩, 1, pb) (0, 0, 0) := rfl
  rw [h1]
  unfold seekF
  rw [StB_bytes, if_neg (by omega)]
  rw [show ((0 : Int)).toNat = 0 from rfl, StB_setB]
theorem StB_write (bs ys : List UInt8) (pa pb c : Nat) (hn : pa + ys.length ≤ 262144) :
    A.withA (StB bs pa pb c) 1 () (writeF (1 - 1 : Int).toNat ys) = (StB (wr (resz bs (max bs.length (pa + ys.length))) pa ys) (pa + ys.length) pb (c + 1), 0, ()) := by
  have h1 : A.withA (StB bs pa pb c) 1 () (writeF (1 - 1 : Int).toNat ys) = writeF 0 ys (StB bs pa pb c).tick (⟨#[102]⟩, 3, pa) (0, 0, 0) := rfl
  have h2 : writeX (⟨#[102]⟩, 3, pa) ys = 0 := by
    unfold writeX
    rw [if_neg (show ¬ ((3 : Int) = 1) by decide), if_neg (show ¬ (262144 < pa + ys.length) by omega)]
  rw [h1]
  unfold writeF
  rw [if_neg (fun c => c h2), StB_bytes, StB_setF]
  show ((StB _ pa pb c).tick.setH 0 (some (⟨#[102]⟩, 3, pa + ys.length)), _) = _
  rw [StB_setA]
theorem StB_read (bs : List UInt8) (pa c : Nat) (hn : bs.length ≤ 5000) : A.withA (StB bs pa 0 c) 2 [] (readF (2 - 1 : Int).toNat 5000) = (StB bs pa bs.length (c + 1), 0, bs) := by
  have h1 : A.withA (StB bs pa 0 c) 2 [] (readF (2 - 1 : Int).toNat 5000) = readF 1 5000 (StB bs pa 0 c).tick (⟨#[102]⟩, 1, 0) (0, 0, 0) := rfl
  have h2 : readL (StB bs pa 0 c).tick (⟨#[102]⟩, 1, 0) 5000 (0, 0, 0) = bs := by
    unfold readL
    rw [StB_bytes]
    show (bs.drop 0).take 5000 = bs
    rw [List.drop_zero, List.take_of_length_le hn]
  rw [h1]
  unfold readF
  rw [if_neg (show ¬ ((1 : Int) = 2) by decide), h2]
  show ((StB bs pa 0 c).tick.setH 1 (some (⟨#[102]⟩, 1, 0 + bs.length)), _) = _
  rw [StB_setB, Nat.zero_add]

/-! ### what is wanted -/
/-- Noughts up to a place. -/
def padTo (bs : List UInt8) (n : Nat) : List UInt8 := bs ++ List.replicate (n - bs.length) 0
theorem padTo_length (bs : List UInt8) (n : Nat) : (padTo bs n).length = max bs.length n := by simp [padTo]; omega
theorem padTo_step (bs : List UInt8) (j : Nat) : bs ++ List.replicate (j + 1) 0 = bs ++ List.replicate j (0 : UInt8) ++ [0] := by
  rw [List.replicate_succ', List.append_assoc]
theorem resz_pad (bs : List UInt8) (n : Nat) : resz bs (padTo bs n).length = padTo bs n := by
  unfold resz
  rw [padTo_length]
  unfold padTo
  rw [List.take_of_length_le (by omega)]
  congr 2
  omega
/-- The first k bytes of ys over those of bs from a place on. -/
def over (bs : List UInt8) (p : Nat) (ys : List UInt8) (k : Nat) : List UInt8 := bs.take p ++ ys.take k ++ bs.drop (p + k)
theorem over_zero (bs : List UInt8) (p : Nat) (ys : List UInt8) : over bs p ys 0 = bs := by simp [over]
theorem over_length {bs ys : List UInt8} {p k : Nat} (hp : p ≤ bs.length) (hk : k ≤ ys.length) : (over bs p ys k).length = max bs.length (p + k) := by
  simp [over]; omega
theorem over_set {bs ys : List UInt8} {p k : Nat} (hp : p ≤ bs.length) (hk : k < ys.length) (h : p + k < bs.length) : (over bs p ys k).set (p + k) ys[k] = over bs p ys (k + 1) := by
  apply List.ext_getElem?
  intro j
  have ht1 : (bs.take p).length = p := by simp; omega
  have ht2 : (bs.take p ++ ys.take k).length = p + k := by simp; omega
  have ht3 : (bs.take p ++ ys.take (k + 1)).length = p + (k + 1) := by simp; omega
  rw [List.getElem?_set]
  unfold over
  by_cases h1 : p + k = j
  · subst h1
    rw [if_pos rfl, if_pos (by simp; omega)]
    rw [List.getElem?_append_left (l₁ := bs.take p ++ ys.take (k + 1)) (by omega), List.getElem?_append_right (by omega), ht1]
    simp [hk]
  · rw [if_neg h1]
    by_cases h2 : j < p + k
    · rw [List.getElem?_append_left (l₁ := bs.take p ++ ys.take k) (by omega), List.getElem?_append_left (l₁ := bs.take p ++ ys.take (k + 1)) (by omega)]
      by_cases h3 : j < p
      · rw [List.getElem?_append_left (l₂ := ys.take k) (by omega), List.getElem?_append_left (l₂ := ys.take (k + 1)) (by omega)]
      · rw [List.getElem?_append_right (l₂ := ys.take k) (by omega), List.getElem?_append_right (l₂ := ys.take (k + 1)) (by omega), ht1, List.getElem?_take, List.getElem?_take, if_pos (by omega), if_pos (by omega)]
    · rw [List.getElem?_append_right (l₁ := bs.take p ++ ys.take k) (by omega), List.getElem?_append_right (l₁ := bs.take p ++ ys.take (k + 1)) (by omega), ht2, ht3, List.getElem?_drop, List.getElem?_drop]
      congr 1; omega
theorem over_snoc {bs ys : List UInt8} {p k : Nat} (hk : k < ys.length) (h : bs.length ≤ p + k) : over bs p ys k ++ [ys[k]] = over bs p ys (k + 1) := by
  unfold over
  rw [List.drop_eq_nil_of_le h, List.drop_eq_nil_of_le (by omega), List.append_nil, List.append_nil, List.append_assoc, List.take_succ_eq_append_getElem hk]
theorem over_wr {bs ys : List UInt8} {p : Nat} (hp : p ≤ bs.length) : wr (resz bs (max bs.length (p + ys.length))) p ys = over bs p ys ys.length := by
  unfold wr resz over
  rw [List.take_of_length_le (show bs.length ≤ max bs.length (p + ys.length) by omega), List.take_append_of_le_length hp, List.take_length]
  congr 1
  rcases Nat.lt_or_ge bs.length (p + ys.length) with h | h
  · rw [List.drop_eq_nil_of_le (by simp; omega), List.drop_eq_nil_of_le (by omega)]
  · rw [show max bs.length (p + ys.length) - bs.length = 0 by omega]; simp
end Go.Proofs.YtcdmdkgiabfbeaaGreatDoor

/-
  A store that was made since, beside a slice of bytes that was made since: what each step leaves of both.
-/
namespace Go.Proofs.YtcdmdkgiabfbeaaGreatDoor
open Go.RowKit

structure WS (m0 : Mem) (sb : Nat) (g : G) (mc : Mem) (wv : Value) (ws : List UInt8) : Prop where
  own : Own m0 sb g mc
  row : Row mc wv 5 1 ws.length (ws.map byteV)
  new : ∀ b, wv.ownBlock = some b → m0 b = none ∧ ¬ FP sb g b

theorem WS.step {β : Type} {m0 mc m2 : Mem} {sb : Nat} {g : G} {wv : Value} {ws : List UInt8} {F : A × Int × β} {X : Mem → β → Prop} {x : Int} (h : WS m0 sb g mc wv ws) (o : OpR mc sb g (fun _ => False) F X m2 x) :
    ∃ g2, WS m0 sb g2 m2 wv ws ∧ g2.abs = F.1 ∧ x = F.2.1 ∧ X m2 F.2.2 := by
  have o' := o
  obtain ⟨g2, h1, h2, h3, h4, h5⟩ := o
  refine ⟨g2, ⟨⟨fun b ob hb => h2.keep b ob (h.own.le _ _ hb) ?_, h1, fun b hb => ?_⟩, h.row.keep fun b ob hb hm => h2.keep b ob hm ?_, fun b hb => ⟨(h.new b hb).1, fun hp => ?_⟩⟩, h3, h4, h5⟩
  · rintro (x | x)
    · rw [h.own.new b x] at hb; cases hb
    · exact x
  · rcases h2.new b hb with (x | x) | x
    · exact h.own.new b x
    · exact x.elim
    · exact Mem.none_le h.own.le x
  · rintro (x | x)
    · exact (h.new b hb).2 x
    · exact x
  · obtain ⟨cap, cur, fz, _, hg, _⟩ := h.row.own hb
    rcases h2.new b hp with (x | x) | x
    · exact (h.new b hb).2 x
    · exact x.elim
    · rw [hg] at x; cases x

theorem WS.grow {m0 mc mc' : Mem} {sb : Nat} {g : G} {wv : Value} {ws : List UInt8} (h : WS m0 sb g mc wv ws) (l : mc.le mc') : WS m0 sb g mc' wv ws := ⟨h.own.grow l, h.row.le l, h.new⟩

/-- The slice grows, or is written to. -/
theorem WS.turn {m0 mc m2 : Mem} {sb : Nat} {g : G} {wv wv' : Value} {ws ws' : List UInt8} (h : WS m0 sb g mc wv ws) (gr : Grows mc m2 wv wv') (row : Row m2 wv' 5 1 ws'.length (ws'.map byteV)) : WS m0 sb g m2 wv' ws' := by
  refine ⟨⟨fun b o hb => gr.keep (h.own.le _ _ hb) fun hv => ?_, h.own.rep.keep fun b o hp hm => gr.keep hm fun hv => (h.new b hv).2 hp, h.own.new⟩, row, fun b hb => ?_⟩
  · rw [(h.new b hv).1] at hb; cases hb
  · rcases gr with ⟨_, h2⟩ | ⟨gb, o, h2, _, h4⟩
    · rw [h2] at hb; exact h.new b hb
    · rw [hb] at h2
      obtain rfl := Option.some.inj h2
      rcases h4 with h4 | h4
      · exact h.new b h4
      · exact ⟨Mem.none_le h.own.le h4, h.own.rep.unknown h4⟩

theorem WS.nil {m0 mc : Mem} {sb : Nat} {g : G} (h : Own m0 sb g mc) : WS m0 sb g mc (.slice none 0 0) [] := ⟨h, Row.nil _ _ _, fun b hb => by cases hb⟩

/-- One byte more. -/
theorem WS.app {m0 mc : Mem} {sb : Nat} {g : G} {wv : Value} {ws : List UInt8} (h : WS m0 sb g mc wv ws) (x : UInt8) (ty : TypeId) (b : Nat) (w : World) (hw : Has w mc) (hc : Cells mc b 0 [byteV x]) (hl : ws.length ≤ 1000000) :
    ∃ v' w' m', (Builtin.append_ #[26, 26] ty #[wv, .slice (some ⟨b, 0, none⟩) 1 1]).run Tryz.prog w = .ok v' w' ∧ Env w w' ∧ Has w' m' ∧ WS m0 sb g m' v' (ws ++ [x]) := by
  obtain ⟨i0, hi, hz0, hz1, hz2⟩ := info_parts infoB
  obtain ⟨v', w2, m2, hrun, he2, hh2, hrow2, hgr2⟩ := run_append_row (P := Tryz.prog) 26 ty 5 i0 (.int .u8 0) 1 1 Tryz.underlying26 hi hz0 hz1 hz2 rfl (by decide)
    hw wv ws.length (ws.map byteV) h.row b 0 1 1 [byteV x] rfl hc (by simp [Value.oneCell', byteV]) (by decide) (by omega) (by omega)
  exact ⟨v', w2, m2, hrun, he2, hh2, h.turn hgr2 (by simpa using hrow2)⟩

/-- One byte another. -/
theorem WS.put {m0 mc : Mem} {sb : Nat} {g : G} {a : Nat} {n c : Nat} {ws : List UInt8} (h : WS m0 sb g mc (.slice (some ⟨a, 0, none⟩) n c) ws) (x : UInt8) (j : Nat) (hj : j < ws.length) (w : World) (hw : Has w mc) :
    w.cell? ⟨a, j, none⟩ = some (byteV ws[j]) ∧ w.frozen? ⟨a, j, none⟩ = false ∧
    ∃ m', Has (w.setCell ⟨a, j, none⟩ (byteV x)) m' ∧ WS m0 sb g m' (.slice (some ⟨a, 0, none⟩) n c) (ws.set j x) := by
  obtain ⟨cap, cur, fz, hv, hg, hth, hnc, hcm, hcs, htk⟩ := h.row.own (b := a) rfl
  have hcj : ∀ i, i < ws.length → cur[i]? = (ws.map byteV)[i]? := fun i hi => by
    rw [← htk, List.getElem?_take, if_pos (by omega)]; simp
  have hn : n = ws.length := by simp only [Value.slice.injEq] at hv; exact hv.2.1
  have hcc : c = cap := by simp only [Value.slice.injEq] at hv; exact hv.2.2
  refine ⟨by rw [hw.cell hg, hcj j hj]; simp [hj], by simp only [World.frozen?, hw _ _ hg]; exact hth j (by omega), _, hw.store hg (byteV x), ?_⟩
  refine h.turn (.inr ⟨a, _, rfl, rfl, .inl rfl⟩) ⟨by simp, .inr ⟨a, cap, _, fz, by simp [hn, hcc], Mem.set_same _ _ _, hth.size (by simp), by simpa using hnc, hcm, by simpa using hcs, ?_⟩⟩
  apply List.ext_getElem?
  intro i
  rw [List.getElem?_take]
  by_cases hi : i < ws.length
  · rw [if_pos (by simpa using hi)]
    simp only [Array.getElem?_toList, Array.getElem?_setIfInBounds, List.getElem?_map, List.getElem?_set]
    by_cases e : j = i
    · subst e; rw [if_pos rfl, if_pos rfl, if_pos (by omega), if_pos hj]; rfl
    · rw [if_neg e, if_neg e, hcj i hi, List.getElem?_map]
  · rw [if_neg (by simpa using hi), List.getElem?_eq_none]
    simpa using hi
end Go.Proofs.YtcdmdkgiabfbeaaGreatDoor
