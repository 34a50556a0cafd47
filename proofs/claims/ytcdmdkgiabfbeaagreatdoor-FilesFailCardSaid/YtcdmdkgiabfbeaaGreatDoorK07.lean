/-
  Flush, Size, Position, Close, Ops.
-/
import Derived.Test.YtcdmdkgiabfbeaaGreatDoorK06
import Derived.Test.YtcdmdkgiabfbeaaGreatDoorK02
import Derived.Test.YtcdmdkgiabfbeaaGreatDoorK03
import Derived.Laws.IdiomCopy
import Derived.Lib.MinMax
namespace Go.Proofs.YtcdmdkgiabfbeaaGreatDoor
open Go.RowKit

def flushF (t : A) (_ : H3) (_ : Fail3) : A × Int × Unit := (t, 0, ())
def sizeF (t : A) (h : H3) (_ : Fail3) : A × Int × Int := (t, 0, (t.bytes h.1).length)
def posF (t : A) (h : H3) (_ : Fail3) : A × Int × Int := (t, 0, h.2.2)
def closeF (i : Nat) (t : A) (_ : H3) (_ : Fail3) : A × Int × Unit := (t.setH i none, 0, ())

theorem flush1_any (sb : Nat) (g : G) (h : Hnd) (fl : Fail3) (w : World) (m : Mem) (hm : Has w m) (hr : SRep m sb g) :
    Calls Tryz.prog 100 #[.pointer (some ⟨h.ob, 0, none⟩), failV fl] w (DoR w m sb g (fun _ => False) (flushF g.abs h.abs fl) (fun _ _ => True)) := by
  have H := Lib.hid hm
  have HR := Lib.hid hr
  obtain ⟨f0, f1, fs⟩ := fl
  clear hm hr
  simp only [failV]
  go_enter Tryz.func100, Tryz.ntmps100
  go_wp2_with fail
  go_ret
  exact ⟨.nilIface, 0, m, rfl, H.out.keep _, (Env.refl w).alloc _, .inl ⟨rfl, rfl⟩, g, HR.out, (Fr.refl m _).mono (fun b hb => .inl (.inl hb)), rfl, rfl, trivial⟩
theorem enters_flush1 : Enters 100 := fun _ _ => by kernel_rfl

theorem flush_any (sb : Nat) (id : Int) (g : G) (w : World) (m : Mem) (hm : Has w m) (hr : SRep m sb g) (hG : GlobOk m) (h0 : ¬ FP sb g 0) (hn : g.n ≤ 999999) :
    Calls Tryz.prog 71 #[.pointer (some ⟨sb, 0, none⟩), .int .i64 id] w
      (Ans w (OpR m sb g (fun _ => False) (A.withA g.abs id () flushF) (fun _ _ => True))) := by
  have hW := with_op () flushF (fun _ _ => True) (fun _ => False) sb id g 100 #[] _ _ hm hr hG h0 (fun h => h) hn enters_flush1
    (fun k h hk hid w1 m1 l2 hw1 hr1 => flush1_any sb g.tick h g.now w1 m1 hw1 hr1)
    (fun _ _ => trivial)
  have HW := Lib.hid hW
  clear hm hr hG hW
  go_enter Tryz.func71, Tryz.ntmps71
  go_wp2_with fail
  refine HW.out.mono ?_
  rintro e w2 ⟨x, m2, rfl, h2, n2, hx⟩
  have H2 := Lib.hid h2
  have N2 := Lib.hid n2
  have HX := Lib.hid hx
  clear h2 n2 hx
  go_wp2_with fail
  go_ret
  exact ⟨x, m2, rfl, H2.out, N2.out, HX.out⟩

theorem size1_any (sb k rb : Nat) (n0 : Int) (g : G) (h : Hnd) (fl : Fail3) (w : World) (m : Mem) (hm : Has w m) (hr : SRep m sb g) (hk : g.O[k]? = some (some h)) (hp : BoxI m rb n0) :
    Calls Tryz.prog 39 #[.pointer (some ⟨h.ob, 0, none⟩), failV fl, .pointer (some ⟨rb, 0, none⟩)] w (DoR w m sb g (fun b => b = rb) (sizeF g.abs h.abs fl) (fun m2 n => BoxI m2 rb n)) := by
  obtain ⟨e, he, hfb, hname, hlook⟩ := hr.fileOf hk
  have hob := hr.hnd h (List.mem_of_getElem? hk)
  obtain ⟨ba, bc, hbv, hbc⟩ := (hr.row e he).lenV
  have hfile := hr.file e he
  rw [hfb] at hfile
  have hbs : g.abs.bytes h.name = e.bs := by unfold A.bytes; rw [hlook]; rfl
  have c0 : w.cell? ⟨h.ob, 0, none⟩ = some (.pointer (some ⟨h.fb, 0, none⟩)) := by rw [hm.cell hob]; rfl
  have c1 : w.cell? ⟨h.fb, 0, none⟩ = some (.slice ba e.bs.length bc) := by rw [hm.cell hfile, ← hbv]; rfl
  have c2 : w.cell? ⟨rb, 0, none⟩ = some (.int .i64 n0) := by rw [hm.cell hp]; rfl
  have f2 : w.frozen? ⟨rb, 0, none⟩ = false := hm.froz hp
  have l0 := hm.lt hob
  have l1 := hm.lt hfile
  have l2 := hm.lt hp
  have nrb := hr.notB hp (by decide)
  have HF : Hid (sizeF g.abs h.abs fl = (g.abs, 0, (e.bs.length : Int))) := Lib.hid (by unfold sizeF; rw [show h.abs.1 = h.name from rfl, hbs])
  have H := Lib.hid hm
  have HR := Lib.hid hr
  have HP := Lib.hid hp
  obtain ⟨f0, f1, fs⟩ := fl
  clear hm hr hob hfile hbs hlook hp hbv he hname hfb
  simp only [failV]
  go_enter Tryz.func39, Tryz.ntmps39
  go_wp2_with fail
  go_ret
  rw [HF.out]
  have hst := (H.out.storeTo (off := 0) (c' := #[.int .i64 (e.bs.length : Int)]) HP.out (.int .i64 (e.bs.length : Int)) (by simp)).keep (.cells #[.int .i64 f0, .int .i64 f1, .int .i64 fs] 47)
  exact ⟨.nilIface, 0, _, rfl, hst, ((Env.refl w).setCell _ _).alloc _, .inl ⟨rfl, rfl⟩, g, HR.out.other _ nrb, ⟨fun b o hb hp => by rw [Mem.set_ne _ _ (fun e => hp (.inr e))]; exact hb, fun b hb => .inl (.inl hb)⟩, rfl, rfl, Mem.set_same _ _ _⟩
theorem enters_size1 : Enters 39 := fun _ _ => by kernel_rfl

theorem pos1_any (sb k rb : Nat) (n0 : Int) (g : G) (h : Hnd) (fl : Fail3) (w : World) (m : Mem) (hm : Has w m) (hr : SRep m sb g) (hk : g.O[k]? = some (some h)) (hp : BoxI m rb n0) :
    Calls Tryz.prog 94 #[.pointer (some ⟨h.ob, 0, none⟩), failV fl, .pointer (some ⟨rb, 0, none⟩)] w (DoR w m sb g (fun b => b = rb) (posF g.abs h.abs fl) (fun m2 n => BoxI m2 rb n)) := by
  have hob := hr.hnd h (List.mem_of_getElem? hk)
  have c0 : w.cell? ⟨h.ob, 2, none⟩ = some (.int .i64 h.pos) := by rw [hm.cell hob]; rfl
  have c2 : w.cell? ⟨rb, 0, none⟩ = some (.int .i64 n0) := by rw [hm.cell hp]; rfl
  have f2 : w.frozen? ⟨rb, 0, none⟩ = false := hm.froz hp
  have l0 := hm.lt hob
  have l2 := hm.lt hp
  have nrb := hr.notB hp (by decide)
  have H := Lib.hid hm
  have HR := Lib.hid hr
  have HP := Lib.hid hp
  obtain ⟨f0, f1, fs⟩ := fl
  clear hm hr hob hp
  simp only [failV]
  go_enter Tryz.func94, Tryz.ntmps94
  go_wp2_with fail
  go_ret
  have hst := (H.out.storeTo (off := 0) (c' := #[.int .i64 (h.pos : Int)]) HP.out (.int .i64 (h.pos : Int)) (by simp)).keep (.cells #[.int .i64 f0, .int .i64 f1, .int .i64 fs] 47)
  exact ⟨.nilIface, 0, _, rfl, hst, ((Env.refl w).setCell _ _).alloc _, .inl ⟨rfl, rfl⟩, g, HR.out.other _ nrb, ⟨fun b o hb hp => by rw [Mem.set_ne _ _ (fun e => hp (.inr e))]; exact hb, fun b hb => .inl (.inl hb)⟩, rfl, rfl, Mem.set_same _ _ _⟩
theorem enters_pos1 : Enters 94 := fun _ _ => by kernel_rfl

set_option maxHeartbeats 1000000 in
theorem opsize_any (sb : Nat) (id : Int) (g : G) (w : World) (m : Mem) (hm : Has w m) (hr : SRep m sb g) (hG : GlobOk m) (h0 : ¬ FP sb g 0) (hn : g.n ≤ 999999) :
    Calls Tryz.prog 10 #[.pointer (some ⟨sb, 0, none⟩), .int .i64 id] w
      (AnsB w fun v m2 x => OpR m sb g (fun _ => False) (A.withA g.abs id 0 sizeF) (fun _ n => v = .int .i64 n) m2 x) := by
  have hfr := hm.fresh (Nat.le_refl w.heap.size)
  have h1 := hm.alloc (.cells #[.int .i64 0] 3)
  have l1 := Mem.le_set m (.cells #[.int .i64 0] 3) hfr
  have hnsb : sb ≠ w.heap.size := Ne.symm (Mem.ne_of_none hfr hr.store)
  have hE0 : ¬ ((0 : Nat) = w.heap.size) := fun e => by
    obtain ⟨c, ee, fz, h, _⟩ := hG
    rw [e, hfr] at h; cases h
  have hb0 : BoxI ((m.set w.heap.size (.cells #[.int .i64 0] 3)).set sb (storeObj g.tick)) w.heap.size 0 := by
    unfold BoxI; rw [Mem.set_ne _ _ (Ne.symm hnsb)]; exact Mem.set_same _ _ _
  have hW := with_op 0 sizeF (fun m2 n => BoxI m2 w.heap.size n) (fun b => b = w.heap.size) sb id g 39 #[.pointer (some ⟨w.heap.size, 0, none⟩)] _ _ h1 (hr.le l1) (hG.le l1) h0 hE0 hn enters_size1
    (fun k h hk hid w1 m1 l2 hw1 hr1 => size1_any sb k w.heap.size 0 g.tick h g.now w1 m1 hw1 hr1 hk (l2 _ _ hb0))
    (fun m1 l2 => l2 _ _ hb0)
  have HW := Lib.hid hW
  have L1 := Lib.hid l1
  have HFR := Lib.hid hfr
  clear hm hr hG h1 l1 hW hfr hb0 hE0 hnsb
  go_enter Tryz.func10, Tryz.ntmps10
  go_wp2_with fail
  refine HW.out.mono ?_
  rintro e w2 ⟨x, m2, rfl, h2, n2, hx⟩
  obtain ⟨g2, x1, x2, x3, x4, x5⟩ := hx
  have c0 : w2.cell? ⟨w.heap.size, 0, none⟩ = some (.int .i64 (A.withA g.abs id 0 sizeF).2.2) := by rw [h2.cell x5]; rfl
  have f0 : w2.frozen? ⟨w.heap.size, 0, none⟩ = false := h2.froz x5
  have H2 := Lib.hid h2
  have N2 := Lib.hid n2
  have X1 := Lib.hid x1
  have X2 := Lib.hid x2
  have X3 := Lib.hid x3
  have X4 := Lib.hid x4
  have X5 := Lib.hid x5
  clear h2 n2 x1 x2 x3 x4 x5
  go_wp2_with fail
  refine bodyPost_ret (v := .tuple #[.int .i64 (A.withA g.abs id 0 sizeF).2.2, .int .i64 x]) (by simp [results, Tryz.results10, go_sem, c0]) rfl ?_
  refine ⟨_, x, m2, rfl, H2.out.same X5.out (by simp), (((Env.refl w).alloc _).trans N2.out).setCell _ _, ?_⟩
  have hop : OpR _ sb g (fun b => b = w.heap.size) (A.withA g.abs id 0 sizeF) (fun _ n => Value.int .i64 (A.withA g.abs id 0 sizeF).2.2 = .int .i64 n) m2 x := ⟨g2, X1.out, X2.out, X3.out, X4.out, rfl⟩
  exact hop.ahead L1.out (fun b hb => by subst hb; exact HFR.out) (fun h => h)
set_option maxHeartbeats 1000000 in
theorem pos_any (sb : Nat) (id : Int) (g : G) (w : World) (m : Mem) (hm : Has w m) (hr : SRep m sb g) (hG : GlobOk m) (h0 : ¬ FP sb g 0) (hn : g.n ≤ 999999) :
    Calls Tryz.prog 63 #[.pointer (some ⟨sb, 0, none⟩), .int .i64 id] w
      (AnsB w fun v m2 x => OpR m sb g (fun _ => False) (A.withA g.abs id 0 posF) (fun _ n => v = .int .i64 n) m2 x) := by
  have hfr := hm.fresh (Nat.le_refl w.heap.size)
  have h1 := hm.alloc (.cells #[.int .i64 0] 3)
  have l1 := Mem.le_set m (.cells #[.int .i64 0] 3) hfr
  have hnsb : sb ≠ w.heap.size := Ne.symm (Mem.ne_of_none hfr hr.store)
  have hE0 : ¬ ((0 : Nat) = w.heap.size) := fun e => by
    obtain ⟨c, ee, fz, h, _⟩ := hG
    rw [e, hfr] at h; cases h
  have hb0 : BoxI ((m.set w.heap.size (.cells #[.int .i64 0] 3)).set sb (storeObj g.tick)) w.heap.size 0 := by
    unfold BoxI; rw [Mem.set_ne _ _ (Ne.symm hnsb)]; exact Mem.set_same _ _ _
  have hW := with_op 0 posF (fun m2 n => BoxI m2 w.heap.size n) (fun b => b = w.heap.size) sb id g 94 #[.pointer (some ⟨w.heap.size, 0, none⟩)] _ _ h1 (hr.le l1) (hG.le l1) h0 hE0 hn enters_pos1
    (fun k h hk hid w1 m1 l2 hw1 hr1 => pos1_any sb k w.heap.size 0 g.tick h g.now w1 m1 hw1 hr1 hk (l2 _ _ hb0))
    (fun m1 l2 => l2 _ _ hb0)
  have HW := Lib.hid hW
  have L1 := Lib.hid l1
  have HFR := Lib.hid hfr
  clear hm hr hG h1 l1 hW hfr hb0 hE0 hnsb
  go_enter Tryz.func63, Tryz.ntmps63
  go_wp2_with fail
  refine HW.out.mono ?_
  rintro e w2 ⟨x, m2, rfl, h2, n2, hx⟩
  obtain ⟨g2, x1, x2, x3, x4, x5⟩ := hx
  have c0 : w2.cell? ⟨w.heap.size, 0, none⟩ = some (.int .i64 (A.withA g.abs id 0 posF).2.2) := by rw [h2.cell x5]; rfl
  have f0 : w2.frozen? ⟨w.heap.size, 0, none⟩ = false := h2.froz x5
  have H2 := Lib.hid h2
  have N2 := Lib.hid n2
  have X1 := Lib.hid x1
  have X2 := Lib.hid x2
  have X3 := Lib.hid x3
  have X4 := Lib.hid x4
  have X5 := Lib.hid x5
  clear h2 n2 x1 x2 x3 x4 x5
  go_wp2_with fail
  refine bodyPost_ret (v := .tuple #[.int .i64 (A.withA g.abs id 0 posF).2.2, .int .i64 x]) (by simp [results, Tryz.results63, go_sem, c0]) rfl ?_
  refine ⟨_, x, m2, rfl, H2.out.same X5.out (by simp), (((Env.refl w).alloc _).trans N2.out).setCell _ _, ?_⟩
  have hop : OpR _ sb g (fun b => b = w.heap.size) (A.withA g.abs id 0 posF) (fun _ n => Value.int .i64 (A.withA g.abs id 0 posF).2.2 = .int .i64 n) m2 x := ⟨g2, X1.out, X2.out, X3.out, X4.out, rfl⟩
  exact hop.ahead L1.out (fun b hb => by subst hb; exact HFR.out) (fun h => h)

/-- An open file closed. -/
theorem SRep.close {m : Mem} {sb : Nat} {g : G} (r : SRep m sb g) {k : Nat} {h : Hnd} (hk : g.O[k]? = some (some h)) :
    ∃ ob n cap cur fz, g.ov = .slice (some ⟨ob, 0, none⟩) n cap ∧ n = g.O.length ∧ m ob = some (.cells cur 83 fz) ∧ Thaw cur fz ∧ k < cur.size ∧ cur[k]? = some (.pointer (some ⟨h.ob, 0, none⟩)) ∧
      SRep (m.set ob (.cells (cur.setIfInBounds k (.pointer none)) 83 fz)) sb { g with O := g.O.set k none } ∧
      Fr m (m.set ob (.cells (cur.setIfInBounds k (.pointer none)) 83 fz)) (FP sb g) (FP sb { g with O := g.O.set k none }) := by
  have hlt : k < g.O.length := (List.getElem?_eq_some_iff.1 hk).1
  obtain ⟨hl, ⟨_, h0⟩ | ⟨ob, cap, cur, fz, hv, hg, hth, hn, hc, hcs, ht⟩⟩ := r.opens
  · omega
  · have hck : cur[k]? = some (.pointer (some ⟨h.ob, 0, none⟩)) := by
      have h1 : (cur.toList.take (g.O.length * 1))[k]? = (g.O.map hndV)[k]? := by rw [ht]
      rw [List.getElem?_take, if_pos (by omega), List.getElem?_map, hk] at h1
      simpa [hndV] using h1
    refine ⟨ob, _, cap, cur, fz, hv, rfl, hg, hth, (by omega), hck, r.reopen g.ov _ ?_ ?_ ?_ ?_ ?_ ?_, ?_⟩
    · rw [Mem.set_ne _ _ (by rintro rfl; rw [r.store] at hg; simp [storeObj] at hg)]; exact r.store
    · intro b o hb _ hne
      refine .inl ?_
      rw [Mem.set_ne _ _ (by rintro rfl; exact hne (by rw [hv]; rfl))]; exact hb
    · rw [List.length_set]
      refine ⟨by simp, .inr ⟨ob, cap, _, fz, hv, Mem.set_same _ _ _, hth.size (by simp), hn, hc, by simpa using hcs, ?_⟩⟩
      apply List.ext_getElem?
      intro i
      rw [List.getElem?_take]
      by_cases hi : i < g.O.length * 1
      · rw [if_pos hi]
        have h1 : (cur.toList.take (g.O.length * 1))[i]? = (g.O.map hndV)[i]? := by rw [ht]
        rw [List.getElem?_take, if_pos hi] at h1
        simp only [Array.getElem?_toList, Array.getElem?_setIfInBounds, List.getElem?_map, List.getElem?_set] at h1 ⊢
        by_cases e : k = i
        · subst e; rw [if_pos rfl, if_pos (by omega), if_pos rfl, if_pos hlt]; rfl
        · rw [if_neg e, if_neg e, h1]
      · rw [if_neg hi, List.getElem?_eq_none]; simp; omega
    · intro j hj
      rcases List.mem_or_eq_of_mem_set hj with hj' | hj'
      · refine ⟨?_, r.hof j hj', r.pos j hj'⟩
        have := r.hnd j hj'
        rw [Mem.set_ne _ _ (by rintro rfl; rw [hg] at this; simp [hndObj] at this)]; exact this
      · cases hj'
    · intro i j hi hj h1 h2 e
      have key : ∀ (i : Nat) (x : Hnd), (g.O.set k none)[i]? = some (some x) → g.O[i]? = some (some x) := fun i x hx => by
        rw [List.getElem?_set] at hx
        by_cases e : k = i
        · rw [if_pos e] at hx; split at hx <;> cases hx
        · rwa [if_neg e] at hx
      exact r.obs i j hi hj (key _ _ h1) (key _ _ h2) e
    · simpa using r.olen
    · refine (Fr.set _ (.inl (.inr (.inr (.inr (.inr (.inl (by rw [hv]; rfl)))))))).mono ?_
      rintro b (x | x | x | x | x | ⟨y, hy, rfl⟩)
      · exact .inl (.inl x)
      · exact .inl (.inr (.inl x))
      · exact .inl (.inr (.inr (.inl x)))
      · exact .inl (.inr (.inr (.inr (.inl x))))
      · exact .inl (.inr (.inr (.inr (.inr (.inl x)))))
      · rcases List.mem_or_eq_of_mem_set hy with hy | hy
        · exact .inl (.inr (.inr (.inr (.inr (.inr ⟨y, hy, rfl⟩)))))
        · cases hy

theorem ops_any (sb : Nat) (g : G) (w : World) (m : Mem) (hm : Has w m) (hr : SRep m sb g) :
    Calls Tryz.prog 16 #[.pointer (some ⟨sb, 0, none⟩)] w fun e w' => e = .returned (.int .i64 g.n) ∧ w' = w := by
  have c0 : w.cell? ⟨sb, 3, none⟩ = some (.int .i64 g.n) := by rw [hm.cell hr.store]; rfl
  have l0 := hm.lt hr.store
  clear hm hr
  go_enter Tryz.func16, Tryz.ntmps16
  go_wp2_with fail
  go_ret
  exact ⟨rfl, rfl⟩
end Go.Proofs.YtcdmdkgiabfbeaaGreatDoor

/-
  The copy of bytes into a file.
-/
namespace Go.Proofs.YtcdmdkgiabfbeaaGreatDoor
open Go.RowKit

/-- Bytes overwritten from a place on. -/
def wr (bs : List UInt8) (p : Nat) (xs : List UInt8) : List UInt8 := bs.take p ++ xs ++ bs.drop (p + xs.length)
theorem wr_length {bs xs : List UInt8} {p : Nat} (h : p + xs.length ≤ bs.length) : (wr bs p xs).length = bs.length := by
  unfold wr; simp; omega
theorem wr_nil (bs : List UInt8) (p : Nat) : wr bs p [] = bs := by unfold wr; simp

theorem wr_get {bs xs : List UInt8} {p : Nat} (h : p + xs.length ≤ bs.length) (j : Nat) : (wr bs p xs)[j]? = if p ≤ j ∧ j < p + xs.length then xs[j - p]? else bs[j]? := by
  unfold wr
  by_cases h1 : p ≤ j
  · by_cases h2 : j < p + xs.length
    · rw [if_pos ⟨h1, h2⟩, List.getElem?_append_left (by simp; omega), List.getElem?_append_right (by simp; omega)]
      congr 1; simp; omega
    · rw [if_neg (by omega), List.getElem?_append_right (by simp; omega), List.getElem?_drop]
      congr 1; simp; omega
  · rw [if_neg (by omega), List.getElem?_append_left (by simp; omega), List.getElem?_append_left (by simp; omega), List.getElem?_take, if_pos (by omega)]

theorem sizeB1 : (Tryz.prog.info? 5).map (·.size) = some 1 := by kernel_rfl

theorem copy_any (v y : Value) (n pos : Nat) (bs xs : List UInt8) (m : Mem) (T : TypeId) (hrow : Row m v 5 1 n (bs.map byteV)) (hbl : bs.length = n) (hy : WindZ m y xs) (hp : pos + xs.length ≤ n)
    (hsep : 0 < xs.length → ∀ b, y.ownBlk = some b → v.ownBlock ≠ some b) :
    ∃ sv, (∀ w', (Instr.slice 26 v (some (.int .i64 pos)) none none).run Tryz.prog w' = .ok sv w') ∧
      ∀ w, Has w m → ∃ w2 m2, (Builtin.copy_ #[26, 26] T #[sv, y]).run Tryz.prog w = .ok (.int .i64 xs.length) w2 ∧ Env w w2 ∧ Has w2 m2 ∧ Row m2 v 5 1 n ((wr bs pos xs).map byteV) ∧ Grows m m2 v v := by
  obtain ⟨va, vc, hv, hvc⟩ := hrow.lenV
  have hs1 : ∀ w', (sizeOf (Tryz.prog.elem 26)).run Tryz.prog w' = .ok 1 w' := fun w' => by kernel_rfl
  have hu : Tryz.prog.underlying 26 = some (.slice (Tryz.prog.elem 26)) := by kernel_rfl
  refine ⟨sliced va pos n vc 1, fun w' => ?_, fun w hm => ?_⟩
  · rw [hv, run_slice_l w' 26 va n vc hu .i64 pos (by omega) (by omega), hs1]
    simp [Result.andThen]
  · rcases Nat.eq_zero_or_pos xs.length with h0 | h0
    · have hx : xs = [] := List.eq_nil_of_length_eq_zero h0
      subst hx
      refine ⟨w, m, ?_, Env.refl w, hm, by rw [wr_nil]; exact hrow, .inl ⟨rfl, rfl⟩⟩
      have hyn : ∃ ya yc, y = .slice ya 0 yc := by
        rcases hy with ⟨_, _, h, _⟩ | ⟨_, _, _, h, _⟩
        · exact ⟨_, _, h⟩
        · exact ⟨_, _, h⟩
      obtain ⟨ya, yc, rfl⟩ := hyn
      have hsv : ∃ da dl dc, sliced va pos n vc 1 = .slice da dl dc := by
        cases va <;> simp [sliced, slicedAt]
      obtain ⟨da, dl, dc, hsv⟩ := hsv
      rw [hsv, run_copy_none w 26 26 T 5 da ya dl dc 0 yc Tryz.underlying26 sizeB1 (by simp)]
      rfl
    · have hrow' := hrow
      obtain ⟨hl, ⟨hn, hz⟩ | ⟨g, cap, cur, fz, hgv, hg, hth, hnc, hcm, hcs, htk⟩⟩ := hrow'
      · omega
      · rcases hy with ⟨_, _, _, hx⟩ | ⟨yg, yo, ycap, hyv, hyc, hcells⟩
        · subst hx; simp at h0
        · subst hyv
          subst hgv
          have hva : va = some ⟨g, 0, none⟩ ∧ vc = cap := by
            simp only [Value.slice.injEq] at hv
            exact ⟨hv.1.symm, hv.2.2.symm⟩
          obtain ⟨rfl, rfl⟩ := hva
          have hne : g ≠ yg := fun e => hsep h0 yg rfl (by rw [← e]; rfl)
          have hsv : sliced (some ⟨g, 0, none⟩) pos n vc 1 = .slice (some ⟨g, pos, none⟩) (n - pos) (vc - pos) := by
            simp only [sliced, slicedAt]
            rw [if_neg (by omega)]
            have : (⟨g, 0, none⟩ : Addr).add (pos * 1) = ⟨g, pos, none⟩ := by unfold Addr.add; split <;> simp_all
            rw [Option.map_some, this]
          rw [hsv]
          have hfit : pos + (xs.map byteV).length ≤ cur.size := by rw [List.length_map]; omega
          have hcopy := run_copy_cells (P := Tryz.prog) w 26 26 T 5 g pos (n - pos) (vc - pos) ⟨yg, yo, none⟩ xs.length ycap (xs.map byteV) Tryz.underlying26 sizeB1
            (by rw [List.length_map]; exact (Nat.min_eq_left (by omega)).symm) (hcells.at hm) (fun j hj => by rw [hm.cell hg]; simp at hj ⊢; omega)
            (fun j hj => by
              have := hth (pos + j) (by omega)
              simp only [World.frozen?, hm _ _ hg]; exact this)
            (fun u hu => by obtain ⟨_, _, rfl⟩ := List.mem_map.1 hu; rfl)
          refine ⟨_, _, by rw [hcopy, List.length_map]; rfl, Env.stores _ _ _ _ (Env.refl w), Has.stores (xs.map byteV) cur pos _ _ hm hg, ⟨by rw [List.length_map, wr_length (by omega)]; omega, .inr ⟨g, vc, _, fz, rfl, Mem.set_same _ _ _, hth.size (splice_size _ _ _), hnc, hcm, by rw [splice_size]; exact hcs, ?_⟩⟩, .inr ⟨g, _, rfl, rfl, .inl rfl⟩⟩
          apply List.ext_getElem?
          intro j
          rw [List.getElem?_take]
          have hcu : ∀ j, j < n → cur[j]? = (bs.map byteV)[j]? := fun j hj => by
            rw [← htk, List.getElem?_take, if_pos (by omega)]; simp
          by_cases hj : j < n * 1
          · rw [if_pos hj]
            have hs : (splice cur pos (xs.map byteV)).toList[j]? = (splice cur pos (xs.map byteV))[j]? := by simp
            rw [hs, splice_get _ _ _ _ hfit]
            have hw := wr_get (bs := bs) (xs := xs) (p := pos) (by omega) j
            simp only [List.length_map, List.getElem?_map, hw]
            by_cases h1 : pos ≤ j ∧ j < pos + xs.length
            · rw [if_pos h1, if_pos h1]
            · rw [if_neg h1, if_neg h1, hcu j (by omega), List.getElem?_map]
          · rw [if_neg hj, List.getElem?_eq_none]
            rw [List.length_map, wr_length (by omega)]; omega
end Go.Proofs.YtcdmdkgiabfbeaaGreatDoor

/-
  Write.
-/
namespace Go.Proofs.YtcdmdkgiabfbeaaGreatDoor
open Go.RowKit

def writeX (h : H3) (b : List UInt8) : Int := if h.2.1 = 1 then -20 else if 262144 < h.2.2 + b.length then -8 else 0
def writeF (i : Nat) (b : List UInt8) (t : A) (h : H3) (_ : Fail3) : A × Int × Unit :=
  if writeX h b ≠ 0 then (t, writeX h b, ()) else
    ((t.setF h.1 (wr (resz (t.bytes h.1) (max (t.bytes h.1).length (h.2.2 + b.length))) h.2.2 b)).setH i (some (h.1, h.2.1, h.2.2 + b.length)), 0, ())

set_option maxHeartbeats 1000000 in
theorem write11_any (p q : Nat) (h : Hnd) (ya : Option Addr) (l yc : Nat) (w : World) (m : Mem) (hm : Has w m) (hp : m p = some (.cells #[.slice ya l yc] 26 (0, 0))) (hq : m q = some (.cells #[.pointer (some ⟨h.ob, 0, none⟩)] 83 (0, 0)))
    (ho : m h.ob = some (hndObj h)) (hpos : h.pos ≤ 262144) :
    Calls Tryz.prog 41 #[.pointer (some ⟨p, 0, none⟩), .pointer (some ⟨q, 0, none⟩)] w (Post w m fun v _ => v = .bool (decide (262144 < h.pos + l))) := by
  have c0 : w.cell? ⟨p, 0, none⟩ = some (.slice ya l yc) := by rw [hm.cell hp]; rfl
  have c1 : w.cell? ⟨q, 0, none⟩ = some (.pointer (some ⟨h.ob, 0, none⟩)) := by rw [hm.cell hq]; rfl
  have c2 : w.cell? ⟨h.ob, 2, none⟩ = some (.int .i64 h.pos) := by rw [hm.cell ho]; rfl
  have H := Lib.hid hm
  clear hm hp hq ho
  go_enter Tryz.func41, Tryz.ntmps41
  go_wp2_with fail
  go_quiet (fail)
  go_wp2_with fail
  go_ret
  refine Post.mk m (Mem.le_refl _) (H.out.drewN _) ((Env.refl w).drewN _) ?_
  show Value.bool _ = Value.bool _
  congr 1
  rw [Bool.eq_iff_iff]; simp; omega

theorem enters_write11 : Enters 41 := fun _ _ => by kernel_rfl

theorem WindZ.shape {m : Mem} {y : Value} {xs : List UInt8} (h : WindZ m y xs) : ∃ ya yc, y = .slice ya xs.length yc := by
  rcases h with ⟨a, c, h1, h2⟩ | ⟨g', o', cap', h1, _⟩
  · exact ⟨a, c, by rw [h1, h2]; rfl⟩
  · exact ⟨_, _, h1⟩

theorem firstOf_write (c : Value) (h : H3) (b : List UInt8) : firstOf (if h.2.1 = 1 then -20 else 0) [(c, -8, decide (262144 < h.2.2 + b.length))] = writeX h b := by
  unfold writeX firstOf firstOf
  by_cases h1 : h.2.1 = 1
  · simp [h1]
  · by_cases h2 : 262144 < h.2.2 + b.length
    · simp [h1, h2]
    · simp [h1, h2]

theorem SRep.known {m : Mem} {sb : Nat} {g : G} (r : SRep m sb g) {b : Nat} (h : FP sb g b) : ∃ o, m b = some o := by
  rcases h with rfl | rfl | ⟨d, hd, rfl | x⟩ | x | x | ⟨h, hh, rfl⟩
  · exact ⟨_, r.store⟩
  · exact ⟨_, r.map⟩
  · exact ⟨_, r.file d hd⟩
  · obtain ⟨_, _, hc⟩ := (r.row d hd).ty x; exact ⟨_, hc⟩
  · obtain ⟨_, _, hc⟩ := Row.ty r.fails x; exact ⟨_, hc⟩
  · obtain ⟨_, _, hc⟩ := r.opens.ty x; exact ⟨_, hc⟩
  · exact ⟨_, r.hnd h hh⟩
theorem SRep.unknown {m : Mem} {sb : Nat} {g : G} (r : SRep m sb g) {b : Nat} (h : m b = none) : ¬ FP sb g b := fun hp => by
  obtain ⟨o, ho⟩ := r.known hp
  rw [h] at ho; cases ho
theorem A.setF_setF (a : A) (s : ByteArray) (x y : List UInt8) : (a.setF s x).setF s y = a.setF s y := by
  simp only [A.setF, A.mk.injEq, true_and, and_true]
  funext j; split <;> rfl
theorem Row.notTy {m : Mem} {v : Value} {e : TypeId} {k n : Nat} {xs : List Value} (h : Row m v e k n xs) {b : Nat} {c : Array Value} {e' : TypeId} {fz : Nat × Nat} (hb : m b = some (.cells c e' fz)) (he : e' ≠ e) : v.ownBlock ≠ some b := fun hv => by
  obtain ⟨cur, fz, hc⟩ := h.ty hv
  rw [hb] at hc
  simp only [Option.some.injEq, Obj.cells.injEq] at hc
  exact he hc.2.1

/-- A window stays where its block does. -/
theorem WindZ.keep {m m' : Mem} {y : Value} {xs : List UInt8} (h : WindZ m y xs) (k : 0 < xs.length → ∀ b o, y.ownBlk = some b → m b = some o → m' b = some o) : WindZ m' y xs := by
  rcases h with h | ⟨g, p, cap, h1, h2, c, e, fz, h4, h5⟩
  · exact .inl h
  · exact .inr ⟨g, p, cap, h1, h2, c, e, fz, k h2 _ _ (by rw [h1]; rfl) h4, h5⟩

set_option maxHeartbeats 8000000 in
theorem write1_any (sb k p : Nat) (g : G) (h : Hnd) (y : Value) (xs : List UInt8) (fl : Fail3) (w : World) (m : Mem) (hm : Has w m) (hr : SRep m sb g) (hk : g.O[k]? = some (some h))
    (hp : m p = some (.cells #[y] 26 (0, 0))) (hy : WindZ m y xs) (hna : 0 < xs.length → ∀ b, y.ownBlk = some b → ¬ FP sb g b) (hxl : xs.length ≤ 1000000) :
    Calls Tryz.prog 40 #[.pointer (some ⟨h.ob, 0, none⟩), failV fl, .pointer (some ⟨p, 0, none⟩)] w
      (DoR w m sb g (fun _ => False) (writeF k xs g.abs h.abs fl) (fun _ _ => True)) := by
  obtain ⟨e, he, hfb, hname, hlook⟩ := hr.fileOf hk
  have hob := hr.hnd h (List.mem_of_getElem? hk)
  have hrow := hr.row e he
  have hfile := hr.file e he
  rw [hfb] at hfile
  have hbs : g.abs.bytes h.name = e.bs := by unfold A.bytes; rw [hlook]; rfl
  have hsz := hr.bsz e he
  have hpos := hr.pos h (List.mem_of_getElem? hk)
  obtain ⟨f0, f1, fs⟩ := fl
  obtain ⟨ya, yc, rfl⟩ := hy.shape
  have hfr := hm.fresh (Nat.le_refl w.heap.size)
  have h1 := hm.alloc (.cells #[.pointer (some ⟨h.ob, 0, none⟩)] 83)
  have l1 := Mem.le_set m (.cells #[.pointer (some ⟨h.ob, 0, none⟩)] 83) hfr
  have hfr2 := h1.fresh (Nat.le_refl _)
  have h2 := h1.alloc (.cells #[.int .i64 f0, .int .i64 f1, .int .i64 fs] 47)
  have l2 := Mem.le_set _ (.cells #[.int .i64 f0, .int .i64 f1, .int .i64 fs] 47) hfr2
  have bx := l2 _ _ (Mem.set_same m w.heap.size (.cells #[.pointer (some ⟨h.ob, 0, none⟩)] 83))
  have HBS := Lib.hid hbs
  have HROW := Lib.hid hrow
  have HFILE := Lib.hid hfile
  have HR := Lib.hid hr
  have HK := Lib.hid hk
  have HP := Lib.hid hp
  have HY := Lib.hid hy
  have HNA := Lib.hid hna
  have HOB := Lib.hid hob
  have HE := Lib.hid he
  have HFB := Lib.hid hfb
  have HNM := Lib.hid hname
  have HA := Lib.hid h2
  have LA := Lib.hid (Mem.le_trans l1 l2)
  have BX := Lib.hid bx
  have HFR := Lib.hid hfr
  have NA := Lib.hid (((Env.refl w).alloc (.cells #[.pointer (some ⟨h.ob, 0, none⟩)] 83)).alloc (.cells #[.int .i64 f0, .int .i64 f1, .int .i64 fs] 47))
  have b0 : ((w.alloc (.cells #[.pointer (some ⟨h.ob, 0, none⟩)] 83)).alloc (.cells #[.int .i64 f0, .int .i64 f1, .int .i64 fs] 47)).cell? ⟨w.heap.size, 0, none⟩ = some (.pointer (some ⟨h.ob, 0, none⟩)) := by
    rw [h2.cell bx]; rfl
  clear hm hr hob hrow hfile hbs hlook hp he hname hfb h1 h2 l1 l2 hfr hfr2 hy hna bx hk
  simp only [failV]
  go_enter Tryz.func40, Tryz.ntmps40
  go_wp2_with fail
  clear b0
  generalize w.heap.size = xb at *
  refine (not_any h.ob h.fb h.mode h.pos 1 _ _ HA.out (LA.out _ _ HOB.out)).mono ?_
  rintro e1 w2 ⟨v, m2, rfl, l2, h2, n2, hv⟩
  have HV := Lib.hid hv
  have LL := Lib.hid (Mem.le_trans LA.out l2)
  have BX2 := Lib.hid (l2 _ _ BX.out)
  have H2 := Lib.hid h2
  have N2 := Lib.hid (NA.out.trans n2)
  clear hv l2 h2 n2
  go_wp2_with fail
  refine (when_any (-8) _ _ (decide (262144 < h.pos + xs.length)) _ _ H2.out ⟨_, _, rfl, enters_write11, fun w1 m1 l h1 => write11_any p xb h ya xs.length yc w1 m1 h1 (l _ _ (LL.out _ _ HP.out)) (l _ _ BX2.out) (l _ _ (LL.out _ _ HOB.out)) hpos⟩).mono ?_
  rintro e1 w3 ⟨c, m3, rfl, l3, h3, n3, hc⟩
  obtain ⟨cp, cq, ci, hcv, _⟩ := hc.imp (fun _ h => h)
  have HC := Lib.hid hc
  have LL3 := Lib.hid (Mem.le_trans LL.out l3)
  have BX3 := Lib.hid (l3 _ _ BX2.out)
  have HV3 := Lib.hid (HV.out.le l3)
  have H3 := Lib.hid h3
  have N3 := Lib.hid (N2.out.trans n3)
  clear hc l3 h3 n3
  subst hcv
  go_wp2_with fail
  have hal := H3.out.alloc (.cells #[.func (.func 78) #[] #[.pointer (some ⟨cp, 0, none⟩), .pointer (some ⟨cq, 0, none⟩)]] 74)
  have lal := Mem.le_set m3 (.cells #[.func (.func 78) #[] #[.pointer (some ⟨cp, 0, none⟩), .pointer (some ⟨cq, 0, none⟩)]] 74) (H3.out.fresh (Nat.le_refl _))
  refine (first_any v _ w3.heap.size [(.func (.func 78) #[] #[.pointer (some ⟨cp, 0, none⟩), .pointer (some ⟨cq, 0, none⟩)], -8, decide (262144 < h.pos + xs.length))] _ _ hal (HV3.out.le lal) (Mem.set_same _ _ _)
    (fun c hc => by obtain rfl := List.mem_singleton.1 hc; exact ⟨HC.out.le lal, show (-8 : Int) ≠ 0 by decide⟩) (by simp)).mono ?_
  rintro e1 w4 ⟨v4, m4, rfl, l4, h4, n4, hv4⟩
  have hw4 := firstOf_write (.func (.func 78) #[] #[.pointer (some ⟨cp, 0, none⟩), .pointer (some ⟨cq, 0, none⟩)]) h.abs xs
  change firstOf (if h.mode = 1 then -20 else 0) [(_, -8, decide (262144 < h.pos + xs.length))] = _ at hw4
  rw [hw4] at hv4
  have HV4 := Lib.hid hv4
  have LL4 := Lib.hid (Mem.le_trans LL3.out (Mem.le_trans lal l4))
  have BX4 := Lib.hid (l4 _ _ (lal _ _ BX3.out))
  have H4 := Lib.hid h4
  have N4 := Lib.hid (((N3.out.alloc (.cells #[.func (.func 78) #[] #[.pointer (some ⟨cp, 0, none⟩), .pointer (some ⟨cq, 0, none⟩)]] 74))).trans n4)
  clear hal lal l4 h4 n4 hv4 hw4
  by_cases hx : writeX h.abs xs = 0
  · obtain rfl : v4 = .nilIface := by
      rcases HV4.out with ⟨_, h⟩ | ⟨h, _⟩
      · exact h
      · exact absurd hx h
    obtain ⟨hm1, hfit⟩ : h.mode ≠ 1 ∧ h.pos + xs.length ≤ 262144 := by
      unfold writeX at hx
      change (if h.mode = 1 then (-20 : Int) else if 262144 < h.pos + xs.length then -8 else 0) = 0 at hx
      by_cases h1 : h.mode = 1
      · rw [if_pos h1] at hx; omega
      · by_cases h2 : 262144 < h.pos + xs.length
        · rw [if_neg h1, if_pos h2] at hx; omega
        · exact ⟨h1, by omega⟩
    have HX := Lib.hid hx
    clear hx
    obtain ⟨ba, bc, hbv, hbc⟩ := HROW.out.lenV
    obtain ⟨q, hq⟩ : ∃ q, h.pos + xs.length = q := ⟨_, rfl⟩
    obtain ⟨kk, hkk⟩ : ∃ kk, max e.bs.length q = kk := ⟨_, rfl⟩
    have wk : IntKind.i64.wrap ((h.pos : Int) + (xs.length : Int)) = (q : Int) := by
      rw [← hq]; simp only [IntKind.wrap, IntKind.signed, IntKind.bits]; simp; omega
    have hmx : max (e.bs.length : Int) (q : Int) = (kk : Int) := by omega
    have d0 : w4.cell? ⟨xb, 0, none⟩ = some (.pointer (some ⟨h.ob, 0, none⟩)) := by rw [H4.out.cell BX4.out]; rfl
    have d1 : w4.cell? ⟨h.ob, 0, none⟩ = some (.pointer (some ⟨h.fb, 0, none⟩)) := by rw [H4.out.cell (LL4.out _ _ HOB.out)]; rfl
    have d2 : w4.cell? ⟨h.fb, 0, none⟩ = some (.slice ba e.bs.length bc) := by rw [H4.out.cell (LL4.out _ _ HFILE.out), ← hbv]; rfl
    have d3 : w4.cell? ⟨h.ob, 2, none⟩ = some (.int .i64 h.pos) := by rw [H4.out.cell (LL4.out _ _ HOB.out)]; rfl
    have d4 : w4.cell? ⟨p, 0, none⟩ = some (.slice ya xs.length yc) := by rw [H4.out.cell (LL4.out _ _ HP.out)]; rfl
    have hkl : kk ≤ 262144 := by omega
    have hqk : h.pos + xs.length ≤ kk := by omega
    have HBV := Lib.hid hbv
    have HQ := Lib.hid hq
    have HKK := Lib.hid hkk
    have HKL := Lib.hid hkl
    have HQK := Lib.hid hqk
    have HM1 := Lib.hid hm1
    have HFIT := Lib.hid hfit
    clear hbv hq hkk hkl hqk hm1 hfit
    go_wp2_with fail
    refine wp_region_K 20 (fun w' => w'.cell? ⟨xb, 0, none⟩ = some (.pointer (some ⟨h.ob, 0, none⟩)) ∧ w'.cell? ⟨h.ob, 0, none⟩ = some (.pointer (some ⟨h.fb, 0, none⟩)) ∧
      w'.cell? ⟨h.fb, 0, none⟩ = some (.slice ba e.bs.length bc) ∧ w'.cell? ⟨h.ob, 2, none⟩ = some (.int .i64 h.pos) ∧ w'.cell? ⟨p, 0, none⟩ = some (.slice ya xs.length yc)) (by kernel_rfl) ?_
    have hS : (fun w' : World => w'.cell? ⟨xb, 0, none⟩ = some (.pointer (some ⟨h.ob, 0, none⟩)) ∧ w'.cell? ⟨h.ob, 0, none⟩ = some (.pointer (some ⟨h.fb, 0, none⟩)) ∧
      w'.cell? ⟨h.fb, 0, none⟩ = some (.slice ba e.bs.length bc) ∧ w'.cell? ⟨h.ob, 2, none⟩ = some (.int .i64 h.pos) ∧ w'.cell? ⟨p, 0, none⟩ = some (.slice ya xs.length yc)) w4.drew := ⟨d0, d1, d2, d3, d4⟩
    refine wpAnyK_take (i := 0) (v := ?_) rfl (by kernel_rfl) (by kernel_rfl) (by kernel_rfl) (by kernel_rfl) (fun _ _ _ h => h) (Or.inl ⟨by rfl, ?_⟩) hS ?_
    rotate_left
    · intro w0 hS0; obtain ⟨q0, q1, q2, q3, q4⟩ := hS0; go_simp; try with_reducible rfl
    simp only [Act.put, List.setIfInBounds_toArray, List.set_cons_zero, List.set_cons_succ, List.getElem_toArray, List.getElem_cons_succ, List.getElem_cons_zero]
    refine wpAnyK_take (i := 1) (v := ?_) rfl (by kernel_rfl) (by kernel_rfl) (by kernel_rfl) (by kernel_rfl) (fun _ _ _ h => h) (Or.inl ⟨by rfl, ?_⟩) hS ?_
    rotate_left
    · intro w0 hS0; obtain ⟨q0, q1, q2, q3, q4⟩ := hS0; go_simp; try with_reducible rfl
    simp only [Act.put, List.setIfInBounds_toArray, List.set_cons_zero, List.set_cons_succ, List.getElem_toArray, List.getElem_cons_succ, List.getElem_cons_zero]
    refine wpAnyK_take (i := 2) (v := ?_) rfl (by kernel_rfl) (by kernel_rfl) (by kernel_rfl) (by kernel_rfl) (fun _ _ _ h => h) (Or.inl ⟨by rfl, ?_⟩) hS ?_
    rotate_left
    · intro w0 hS0; obtain ⟨q0, q1, q2, q3, q4⟩ := hS0; go_simp; try with_reducible rfl
    simp only [Act.put, List.setIfInBounds_toArray, List.set_cons_zero, List.set_cons_succ, List.getElem_toArray, List.getElem_cons_succ, List.getElem_cons_zero]
    refine wpAnyK_take (i := 3) (v := ?_) rfl (by kernel_rfl) (by kernel_rfl) (by kernel_rfl) (by kernel_rfl) (fun _ _ _ h => h) (Or.inl ⟨by rfl, ?_⟩) hS ?_
    rotate_left
    · intro w0 hS0; obtain ⟨q0, q1, q2, q3, q4⟩ := hS0; go_simp; try with_reducible rfl
    simp only [Act.put, List.setIfInBounds_toArray, List.set_cons_zero, List.set_cons_succ, List.getElem_toArray, List.getElem_cons_succ, List.getElem_cons_zero]
    refine wpAnyK_take (i := 4) (v := ?_) rfl (by kernel_rfl) (by kernel_rfl) (by kernel_rfl) (by kernel_rfl) (fun _ _ _ h => h) (Or.inl ⟨by rfl, ?_⟩) hS ?_
    rotate_left
    · intro w0 hS0; obtain ⟨q0, q1, q2, q3, q4⟩ := hS0; go_simp; try with_reducible rfl
    simp only [Act.put, List.setIfInBounds_toArray, List.set_cons_zero, List.set_cons_succ, List.getElem_toArray, List.getElem_cons_succ, List.getElem_cons_zero]
    refine wpAnyK_take (i := 5) (v := ?_) rfl (by kernel_rfl) (by kernel_rfl) (by kernel_rfl) (by kernel_rfl) (fun _ _ _ h => h) (Or.inl ⟨by rfl, ?_⟩) hS ?_
    rotate_left
    · intro w0 hS0; obtain ⟨q0, q1, q2, q3, q4⟩ := hS0; go_simp; try with_reducible rfl
    simp only [Act.put, List.setIfInBounds_toArray, List.set_cons_zero, List.set_cons_succ, List.getElem_toArray, List.getElem_cons_succ, List.getElem_cons_zero]
    refine wpAnyK_take (i := 6) (v := ?_) rfl (by kernel_rfl) (by kernel_rfl) (by kernel_rfl) (by kernel_rfl) (fun _ _ _ h => h) (Or.inl ⟨by rfl, ?_⟩) hS ?_
    rotate_left
    · intro w0 hS0; obtain ⟨q0, q1, q2, q3, q4⟩ := hS0; go_simp; try with_reducible rfl
    simp only [Act.put, List.setIfInBounds_toArray, List.set_cons_zero, List.set_cons_succ, List.getElem_toArray, List.getElem_cons_succ, List.getElem_cons_zero]
    refine wpAnyK_take (i := 7) (v := ?_) rfl (by kernel_rfl) (by kernel_rfl) (by kernel_rfl) (by kernel_rfl) (fun _ _ _ h => h) (Or.inl ⟨by rfl, ?_⟩) hS ?_
    rotate_left
    · intro w0 hS0; obtain ⟨q0, q1, q2, q3, q4⟩ := hS0; go_simp; try with_reducible rfl
    simp only [Act.put, List.setIfInBounds_toArray, List.set_cons_zero, List.set_cons_succ, List.getElem_toArray, List.getElem_cons_succ, List.getElem_cons_zero]
    refine wpAnyK_take (i := 8) (v := ?_) rfl (by kernel_rfl) (by kernel_rfl) (by kernel_rfl) (by kernel_rfl) (fun _ _ _ h => h) (Or.inl ⟨by rfl, ?_⟩) hS ?_
    rotate_left
    · intro w0 hS0; obtain ⟨q0, q1, q2, q3, q4⟩ := hS0; go_simp; try with_reducible rfl
    simp only [Act.put, List.setIfInBounds_toArray, List.set_cons_zero, List.set_cons_succ, List.getElem_toArray, List.getElem_cons_succ, List.getElem_cons_zero]
    refine wpAnyK_take (i := 9) (v := ?_) rfl (by kernel_rfl) (by kernel_rfl) (by kernel_rfl) (by kernel_rfl) (fun _ _ _ h => h) (Or.inl ⟨by rfl, ?_⟩) hS ?_
    rotate_left
    · intro w0 hS0; obtain ⟨q0, q1, q2, q3, q4⟩ := hS0; go_simp; try with_reducible rfl
    simp only [Act.put, List.setIfInBounds_toArray, List.set_cons_zero, List.set_cons_succ, List.getElem_toArray, List.getElem_cons_succ, List.getElem_cons_zero]
    refine wpAnyK_take (i := 10) (v := ?_) rfl (by kernel_rfl) (by kernel_rfl) (by kernel_rfl) (by kernel_rfl) (fun _ _ _ h => h) (Or.inl ⟨by rfl, ?_⟩) hS ?_
    rotate_left
    · intro w0 hS0; obtain ⟨q0, q1, q2, q3, q4⟩ := hS0; go_simp; try with_reducible rfl
    simp only [Act.put, List.setIfInBounds_toArray, List.set_cons_zero, List.set_cons_succ, List.getElem_toArray, List.getElem_cons_succ, List.getElem_cons_zero]
    refine wpAnyK_take (i := 11) (v := ?_) rfl (by kernel_rfl) (by kernel_rfl) (by kernel_rfl) (by kernel_rfl) (fun _ _ _ h => h) (Or.inl ⟨by rfl, ?_⟩) hS ?_
    rotate_left
    · intro w0 hS0; obtain ⟨q0, q1, q2, q3, q4⟩ := hS0; go_simp; try with_reducible rfl
    simp only [Act.put, List.setIfInBounds_toArray, List.set_cons_zero, List.set_cons_succ, List.getElem_toArray, List.getElem_cons_succ, List.getElem_cons_zero]
    refine wpAnyK_take (i := 12) (v := ?_) rfl (by kernel_rfl) (by kernel_rfl) (by kernel_rfl) (by kernel_rfl) (fun _ _ _ h => h) (Or.inl ⟨by rfl, ?_⟩) hS ?_
    rotate_left
    · intro w0 hS0; obtain ⟨q0, q1, q2, q3, q4⟩ := hS0; go_simp; try with_reducible rfl
    simp only [Act.put, List.setIfInBounds_toArray, List.set_cons_zero, List.set_cons_succ, List.getElem_toArray, List.getElem_cons_succ, List.getElem_cons_zero]
    refine wpAnyK_take (i := 13) (v := ?_) rfl (by kernel_rfl) (by kernel_rfl) (by kernel_rfl) (by kernel_rfl) (fun _ _ _ h => h) (Or.inl ⟨by rfl, ?_⟩) hS ?_
    rotate_left
    · intro w0 hS0; obtain ⟨q0, q1, q2, q3, q4⟩ := hS0; go_simp; try with_reducible rfl
    simp only [Act.put, List.setIfInBounds_toArray, List.set_cons_zero, List.set_cons_succ, List.getElem_toArray, List.getElem_cons_succ, List.getElem_cons_zero]
    refine wpAnyK_take (i := 14) (v := ?_) rfl (by kernel_rfl) (by kernel_rfl) (by kernel_rfl) (by kernel_rfl) (fun _ _ _ h => h) (Or.inl ⟨by rfl, ?_⟩) hS ?_
    rotate_left
    · intro w0 hS0; obtain ⟨q0, q1, q2, q3, q4⟩ := hS0; go_simp; try with_reducible rfl
    simp only [Act.put, List.setIfInBounds_toArray, List.set_cons_zero, List.set_cons_succ, List.getElem_toArray, List.getElem_cons_succ, List.getElem_cons_zero]
    refine wpAnyK_take (i := 15) (v := ?_) rfl (by kernel_rfl) (by kernel_rfl) (by kernel_rfl) (by kernel_rfl) (fun _ _ _ h => h) (Or.inl ⟨by rfl, ?_⟩) hS ?_
    rotate_left
    · intro w0 hS0; obtain ⟨q0, q1, q2, q3, q4⟩ := hS0; go_simp; try with_reducible rfl
    simp only [Act.put, List.setIfInBounds_toArray, List.set_cons_zero, List.set_cons_succ, List.getElem_toArray, List.getElem_cons_succ, List.getElem_cons_zero]
    refine wpAnyK_take (i := 16) (v := ?_) rfl (by kernel_rfl) (by kernel_rfl) (by kernel_rfl) (by kernel_rfl) (fun _ _ _ h => h) (Or.inl ⟨by rfl, ?_⟩) hS ?_
    rotate_left
    · intro w0 hS0; obtain ⟨q0, q1, q2, q3, q4⟩ := hS0; go_simp; try with_reducible rfl
    simp only [Act.put, List.setIfInBounds_toArray, List.set_cons_zero, List.set_cons_succ, List.getElem_toArray, List.getElem_cons_succ, List.getElem_cons_zero]
    refine wpAnyK_take (i := 17) (v := ?_) rfl (by kernel_rfl) (by kernel_rfl) (by kernel_rfl) (by kernel_rfl) (fun _ _ _ h => h) (Or.inl ⟨by rfl, ?_⟩) hS ?_
    rotate_left
    · intro w0 hS0; obtain ⟨q0, q1, q2, q3, q4⟩ := hS0; go_simp; try with_reducible rfl
    simp only [Act.put, List.setIfInBounds_toArray, List.set_cons_zero, List.set_cons_succ, List.getElem_toArray, List.getElem_cons_succ, List.getElem_cons_zero]
    refine wpAnyK_take (i := 18) (v := ?_) rfl (by kernel_rfl) (by kernel_rfl) (by kernel_rfl) (by kernel_rfl) (fun _ _ _ h => h) (Or.inl ⟨by rfl, ?_⟩) hS ?_
    rotate_left
    · intro w0 hS0; obtain ⟨q0, q1, q2, q3, q4⟩ := hS0; go_simp; try with_reducible rfl
    simp only [Act.put, List.setIfInBounds_toArray, List.set_cons_zero, List.set_cons_succ, List.getElem_toArray, List.getElem_cons_succ, List.getElem_cons_zero]
    refine wpAnyK_take (i := 19) (v := ?_) rfl (by kernel_rfl) (by kernel_rfl) (by kernel_rfl) (by kernel_rfl) (fun _ _ _ h => h) (Or.inl ⟨by rfl, ?_⟩) hS ?_
    rotate_left
    · intro w0 hS0; obtain ⟨q0, q1, q2, q3, q4⟩ := hS0; go_simp; try with_reducible rfl
    simp only [Act.put, List.setIfInBounds_toArray, List.set_cons_zero, List.set_cons_succ, List.getElem_toArray, List.getElem_cons_succ, List.getElem_cons_zero]
    refine wpAnyK_one (i := 20) rfl (by kernel_rfl) rfl ?_
    go_simp
    refine (size_any h.fb e.bv e.bs kk w4.drew m4 H4.out.drew (LL4.out _ _ HFILE.out) (HROW.out.le LL4.out) HKL.out hsz).mono ?_
    rintro e1 w5 ⟨bv', m5, rfl, gr, h5, n5, row5⟩
    clear hS d0 d1 d2 d3 d4 wk hmx
    have r4 := HR.out.le LL4.out
    rw [← HFB.out] at h5 row5
    have r5 := r4.setF HE.out bv' (resz e.bs kk) gr (by rw [resz_length]; exact row5) (by rw [resz_length]; exact HKL.out)
    have f5 := SRep.setF_fr (sb := sb) HE.out bv' (resz e.bs kk) gr (.cells #[bv'] 80 (0, 0))
    have bx5 := f5.keep _ _ BX4.out (HR.out.unknown HFR.out)
    have p5 := f5.keep _ _ (LL4.out _ _ HP.out) (HR.out.notB HP.out (by decide))
    have hk5 : (g.O)[k]? = some (some h) := HK.out
    have ob5 : (m5.set e.fb (.cells #[bv'] 80 (0, 0))) h.ob = some (hndObj h) := r5.hnd h (List.mem_of_getElem? HK.out)
    have wn5 : WindZ (m5.set e.fb (.cells #[bv'] 80 (0, 0))) (.slice ya xs.length yc) xs := HY.out.keep fun hp b o hb hm => f5.keep _ _ (LL4.out _ _ hm) (HNA.out hp b hb)
    have hsep : 0 < xs.length → ∀ b, (Value.slice ya xs.length yc).ownBlk = some b → bv'.ownBlock ≠ some b := fun hp b hb hc => by
      have hfp : FP sb { g with L := setL g.L e.fb bv' (resz e.bs kk) } b := .inr (.inr (.inl ⟨{ e with bv := bv', bs := resz e.bs kk }, List.mem_map.2 ⟨e, HE.out, by simp⟩, .inr hc⟩))
      rcases f5.new b hfp with x | x
      · exact HNA.out hp b hb x
      · rcases HY.out with ⟨_, _, _, h1⟩ | ⟨yg, yo, ycap, h1, _, c, ee, fz, h4, _⟩
        · rw [h1] at hp; exact absurd hp (Nat.lt_irrefl 0)
        · rw [h1] at hb
          obtain rfl : yg = b := Option.some.inj hb
          rw [LL4.out _ _ h4] at x; cases x
    obtain ⟨sv, hsl, hcp⟩ := copy_any bv' (.slice ya xs.length yc) kk h.pos (resz e.bs kk) xs _ 3 row5 (resz_length _ _) wn5 HQK.out hsep
    have d0 : w5.cell? ⟨xb, 0, none⟩ = some (.pointer (some ⟨h.ob, 0, none⟩)) := by rw [h5.cell bx5]; rfl
    have d1 : w5.cell? ⟨h.ob, 0, none⟩ = some (.pointer (some ⟨h.fb, 0, none⟩)) := by rw [h5.cell ob5]; rfl
    have d2 : w5.cell? ⟨h.fb, 0, none⟩ = some bv' := by rw [← HFB.out, h5.cell (Mem.set_same _ _ _)]; rfl
    have d3 : w5.cell? ⟨h.ob, 2, none⟩ = some (.int .i64 h.pos) := by rw [h5.cell ob5]; rfl
    have d4 : w5.cell? ⟨p, 0, none⟩ = some (.slice ya xs.length yc) := by rw [h5.cell p5]; rfl
    obtain ⟨w6, m6, hrun, n6, h6, row6, gr6⟩ := hcp w5.drew h5.drew
    have nt5 : bv'.ownBlock ≠ some e.fb := row5.notTy (Mem.set_same _ _ _) (by decide)
    have bx6 := gr6.keep bx5 (row5.notTy bx5 (by decide))
    have p6 := gr6.keep p5 (row5.notTy p5 (by decide))
    have fb6 := gr6.keep (Mem.set_same m5 e.fb (.cells #[bv'] 80 (0, 0))) nt5
    have ob6 := gr6.keep ob5 (row5.notTy ob5 (by decide))
    have hE1 : ({ e with bv := bv', bs := resz e.bs kk } : Ent) ∈ setL g.L e.fb bv' (resz e.bs kk) := List.mem_map.2 ⟨e, HE.out, by simp⟩
    have hwl : (wr (resz e.bs kk) h.pos xs).length = kk := by rw [wr_length (by rw [resz_length]; exact HQK.out), resz_length]
    have row6' : Row (m6.set e.fb (.cells #[bv'] 80 (0, 0))) bv' 5 1 (wr (resz e.bs kk) h.pos xs).length ((wr (resz e.bs kk) h.pos xs).map byteV) := by
      rw [Mem.set_eq _ fb6, hwl]; exact row6
    have r6 := r5.setF hE1 bv' (wr (resz e.bs kk) h.pos xs) gr6 row6' (by rw [hwl]; exact HKL.out)
    have f6 := SRep.setF_fr (sb := sb) (g := { g with L := setL g.L e.fb bv' (resz e.bs kk) }) hE1 bv' (wr (resz e.bs kk) h.pos xs) gr6 (.cells #[bv'] 80 (0, 0))
    change Fr _ (m6.set e.fb _) _ _ at f6
    change SRep (m6.set e.fb _) _ _ at r6
    rw [Mem.set_eq _ fb6] at f6 r6
    have hga : ({ g with L := setL (setL g.L e.fb bv' (resz e.bs kk)) e.fb bv' (wr (resz e.bs kk) h.pos xs) } : G).abs = g.abs.setF h.name (wr (resz e.bs kk) h.pos xs) := by
      have a1 := abs_setF r5 hE1 bv' (wr (resz e.bs kk) h.pos xs)
      have a2 := abs_setF HR.out HE.out bv' (resz e.bs kk)
      change ({ g with L := setL (setL g.L e.fb bv' (resz e.bs kk)) e.fb bv' (wr (resz e.bs kk) h.pos xs) } : G).abs = _ at a1
      rw [a1, a2]
      show (g.abs.setF e.name _).setF e.name _ = _
      rw [A.setF_setF, HNM.out]
    obtain ⟨gg, hgg⟩ : ∃ gg : G, ({ g with L := setL (setL g.L e.fb bv' (resz e.bs kk)) e.fb bv' (wr (resz e.bs kk) h.pos xs) } : G) = gg := ⟨_, rfl⟩
    have hgk : gg.O[k]? = some (some h) := by rw [← hgg]; exact HK.out
    change SRep m6 sb { g with L := setL (setL g.L e.fb bv' (resz e.bs kk)) e.fb bv' (wr (resz e.bs kk) h.pos xs) } at r6
    change Fr _ m6 _ (FP sb { g with L := setL (setL g.L e.fb bv' (resz e.bs kk)) e.fb bv' (wr (resz e.bs kk) h.pos xs) }) at f6
    rw [hgg] at r6 f6 hga
    have HGA := Lib.hid hga
    have HGK := Lib.hid hgk
    have H5 := Lib.hid h5
    have N6 := Lib.hid (((N4.out.drew.trans n5).drew).trans n6)
    have H6 := Lib.hid h6
    have BX6 := Lib.hid bx6
    have P6 := Lib.hid p6
    have OB6 := Lib.hid ob6
    have R6 := Lib.hid r6
    have F6 := Lib.hid ((Fr.of_le LL4.out (FP sb g)).trans (f5.trans f6))
    clear hga hgk hgg r4 h5 row5 r5 f5 bx5 p5 ob5 wn5 hsep hcp n6 n5 h6 row6 gr6 nt5 bx6 p6 fb6 ob6 hE1 row6' r6 f6 gr hk5
    refine wpAnyK_done (by kernel_rfl) ?_ _
    go_wp2_with fail
    refine wp_region_K 13 (fun w' => w'.cell? ⟨xb, 0, none⟩ = some (.pointer (some ⟨h.ob, 0, none⟩)) ∧ w'.cell? ⟨h.ob, 0, none⟩ = some (.pointer (some ⟨h.fb, 0, none⟩)) ∧
      w'.cell? ⟨h.fb, 0, none⟩ = some bv' ∧ w'.cell? ⟨h.ob, 2, none⟩ = some (.int .i64 h.pos) ∧ w'.cell? ⟨p, 0, none⟩ = some (.slice ya xs.length yc)) (by kernel_rfl) ?_
    have hS : (fun w' : World => w'.cell? ⟨xb, 0, none⟩ = some (.pointer (some ⟨h.ob, 0, none⟩)) ∧ w'.cell? ⟨h.ob, 0, none⟩ = some (.pointer (some ⟨h.fb, 0, none⟩)) ∧
      w'.cell? ⟨h.fb, 0, none⟩ = some bv' ∧ w'.cell? ⟨h.ob, 2, none⟩ = some (.int .i64 h.pos) ∧ w'.cell? ⟨p, 0, none⟩ = some (.slice ya xs.length yc)) w5.drew := ⟨d0, d1, d2, d3, d4⟩
    refine wpAnyK_take (i := 0) (v := ?_) rfl (by kernel_rfl) (by kernel_rfl) (by kernel_rfl) (by kernel_rfl) (fun _ _ _ h => h) (Or.inl ⟨by rfl, ?_⟩) hS ?_
    rotate_left
    · intro w0 hS0; obtain ⟨q0, q1, q2, q3, q4⟩ := hS0; go_simp; try with_reducible rfl
    simp only [Act.put, List.setIfInBounds_toArray, List.set_cons_zero, List.set_cons_succ, List.getElem_toArray, List.getElem_cons_succ, List.getElem_cons_zero]
    refine wpAnyK_take (i := 1) (v := ?_) rfl (by kernel_rfl) (by kernel_rfl) (by kernel_rfl) (by kernel_rfl) (fun _ _ _ h => h) (Or.inl ⟨by rfl, ?_⟩) hS ?_
    rotate_left
    · intro w0 hS0; obtain ⟨q0, q1, q2, q3, q4⟩ := hS0; go_simp; try with_reducible rfl
    simp only [Act.put, List.setIfInBounds_toArray, List.set_cons_zero, List.set_cons_succ, List.getElem_toArray, List.getElem_cons_succ, List.getElem_cons_zero]
    refine wpAnyK_take (i := 2) (v := ?_) rfl (by kernel_rfl) (by kernel_rfl) (by kernel_rfl) (by kernel_rfl) (fun _ _ _ h => h) (Or.inl ⟨by rfl, ?_⟩) hS ?_
    rotate_left
    · intro w0 hS0; obtain ⟨q0, q1, q2, q3, q4⟩ := hS0; go_simp; try with_reducible rfl
    simp only [Act.put, List.setIfInBounds_toArray, List.set_cons_zero, List.set_cons_succ, List.getElem_toArray, List.getElem_cons_succ, List.getElem_cons_zero]
    refine wpAnyK_take (i := 3) (v := ?_) rfl (by kernel_rfl) (by kernel_rfl) (by kernel_rfl) (by kernel_rfl) (fun _ _ _ h => h) (Or.inl ⟨by rfl, ?_⟩) hS ?_
    rotate_left
    · intro w0 hS0; obtain ⟨q0, q1, q2, q3, q4⟩ := hS0; go_simp; try with_reducible rfl
    simp only [Act.put, List.setIfInBounds_toArray, List.set_cons_zero, List.set_cons_succ, List.getElem_toArray, List.getElem_cons_succ, List.getElem_cons_zero]
    refine wpAnyK_take (i := 4) (v := ?_) rfl (by kernel_rfl) (by kernel_rfl) (by kernel_rfl) (by kernel_rfl) (fun _ _ _ h => h) (Or.inl ⟨by rfl, ?_⟩) hS ?_
    rotate_left
    · intro w0 hS0; obtain ⟨q0, q1, q2, q3, q4⟩ := hS0; go_simp; try with_reducible rfl
    simp only [Act.put, List.setIfInBounds_toArray, List.set_cons_zero, List.set_cons_succ, List.getElem_toArray, List.getElem_cons_succ, List.getElem_cons_zero]
    refine wpAnyK_take (i := 5) (v := ?_) rfl (by kernel_rfl) (by kernel_rfl) (by kernel_rfl) (by kernel_rfl) (fun _ _ _ h => h) (Or.inl ⟨by rfl, ?_⟩) hS ?_
    rotate_left
    · intro w0 hS0; obtain ⟨q0, q1, q2, q3, q4⟩ := hS0; go_simp; try with_reducible rfl
    simp only [Act.put, List.setIfInBounds_toArray, List.set_cons_zero, List.set_cons_succ, List.getElem_toArray, List.getElem_cons_succ, List.getElem_cons_zero]
    refine wpAnyK_take (i := 6) (v := ?_) rfl (by kernel_rfl) (by kernel_rfl) (by kernel_rfl) (by kernel_rfl) (fun _ _ _ h => h) (Or.inl ⟨by rfl, ?_⟩) hS ?_
    rotate_left
    · intro w0 hS0; obtain ⟨q0, q1, q2, q3, q4⟩ := hS0; go_simp; try with_reducible rfl
    simp only [Act.put, List.setIfInBounds_toArray, List.set_cons_zero, List.set_cons_succ, List.getElem_toArray, List.getElem_cons_succ, List.getElem_cons_zero]
    refine wpAnyK_take (i := 7) (v := ?_) rfl (by kernel_rfl) (by kernel_rfl) (by kernel_rfl) (by kernel_rfl) (fun _ _ _ h => h) (Or.inl ⟨by rfl, ?_⟩) hS ?_
    rotate_left
    · intro w0 hS0; obtain ⟨q0, q1, q2, q3, q4⟩ := hS0; go_simp; try with_reducible rfl
    simp only [Act.put, List.setIfInBounds_toArray, List.set_cons_zero, List.set_cons_succ, List.getElem_toArray, List.getElem_cons_succ, List.getElem_cons_zero]
    refine wpAnyK_take (i := 8) (v := ?_) rfl (by kernel_rfl) (by kernel_rfl) (by kernel_rfl) (by kernel_rfl) (fun _ _ _ h => h) (Or.inl ⟨by rfl, ?_⟩) hS ?_
    rotate_left
    · intro w0 hS0; obtain ⟨q0, q1, q2, q3, q4⟩ := hS0; go_simp; try with_reducible rfl
    simp only [Act.put, List.setIfInBounds_toArray, List.set_cons_zero, List.set_cons_succ, List.getElem_toArray, List.getElem_cons_succ, List.getElem_cons_zero]
    refine wpAnyK_take (i := 9) (v := ?_) rfl (by kernel_rfl) (by kernel_rfl) (by kernel_rfl) (by kernel_rfl) (fun _ _ _ h => h) (Or.inl ⟨by rfl, ?_⟩) hS ?_
    rotate_left
    · intro w0 hS0; obtain ⟨q0, q1, q2, q3, q4⟩ := hS0; go_simp; try with_reducible rfl
    simp only [Act.put, List.setIfInBounds_toArray, List.set_cons_zero, List.set_cons_succ, List.getElem_toArray, List.getElem_cons_succ, List.getElem_cons_zero]
    refine wpAnyK_take (i := 10) (v := ?_) rfl (by kernel_rfl) (by kernel_rfl) (by kernel_rfl) (by kernel_rfl) (fun _ _ _ h => h) (Or.inl ⟨by rfl, ?_⟩) hS ?_
    rotate_left
    · intro w0 hS0; obtain ⟨q0, q1, q2, q3, q4⟩ := hS0; go_simp; try with_reducible rfl
    simp only [Act.put, List.setIfInBounds_toArray, List.set_cons_zero, List.set_cons_succ, List.getElem_toArray, List.getElem_cons_succ, List.getElem_cons_zero]
    refine wpAnyK_take (i := 11) (v := ?_) rfl (by kernel_rfl) (by kernel_rfl) (by kernel_rfl) (by kernel_rfl) (fun _ _ _ h => h) (Or.inl ⟨by rfl, ?_⟩) hS ?_
    rotate_left
    · intro w0 hS0; obtain ⟨q0, q1, q2, q3, q4⟩ := hS0; go_simp; try with_reducible rfl
    simp only [Act.put, List.setIfInBounds_toArray, List.set_cons_zero, List.set_cons_succ, List.getElem_toArray, List.getElem_cons_succ, List.getElem_cons_zero]
    refine wpAnyK_take (i := 12) (v := ?_) rfl (by kernel_rfl) (by kernel_rfl) (by kernel_rfl) (by kernel_rfl) (fun _ _ _ h => h) (Or.inl ⟨by rfl, ?_⟩) hS ?_
    rotate_left
    · intro w0 hS0; obtain ⟨q0, q1, q2, q3, q4⟩ := hS0; go_simp; try with_reducible rfl
    simp only [Act.put, List.setIfInBounds_toArray, List.set_cons_zero, List.set_cons_succ, List.getElem_toArray, List.getElem_cons_succ, List.getElem_cons_zero]
    refine wpAnyK_one (i := 13) rfl (by kernel_rfl) rfl ?_
    refine wp_b2 .copy Builtin.copy_ (fun _ _ _ _ => rfl) (.tmp 50) (.tmp 51) 26 26 rfl rfl rfl hrun ?_
    refine ⟨fun h => absurd h (by decide), wpAnyK_done (by kernel_rfl) ?_ _⟩
    clear hS d0 d1 d2 d3 d4 hrun hsl
    go_wp2_with fail
    have d0 : w6.cell? ⟨xb, 0, none⟩ = some (.pointer (some ⟨h.ob, 0, none⟩)) := by rw [H6.out.cell BX6.out]; rfl
    have d3 : w6.cell? ⟨h.ob, 2, none⟩ = some (.int .i64 h.pos) := by rw [H6.out.cell OB6.out]; rfl
    have d5 : w6.frozen? ⟨h.ob, 2, none⟩ = false := H6.out.froz OB6.out
    have d4 : w6.cell? ⟨p, 0, none⟩ = some (.slice ya xs.length yc) := by rw [H6.out.cell P6.out]; rfl
    have wk : IntKind.i64.wrap ((h.pos : Int) + (xs.length : Int)) = (q : Int) := by
      have := HFIT.out
      rw [← HQ.out]; simp only [IntKind.wrap, IntKind.signed, IntKind.bits]; simp; omega
    refine wp_region_K 9 (fun w' => w'.cell? ⟨xb, 0, none⟩ = some (.pointer (some ⟨h.ob, 0, none⟩)) ∧ w'.cell? ⟨h.ob, 2, none⟩ = some (.int .i64 h.pos) ∧ w'.cell? ⟨p, 0, none⟩ = some (.slice ya xs.length yc)) (by kernel_rfl) ?_
    have hS : (fun w' : World => w'.cell? ⟨xb, 0, none⟩ = some (.pointer (some ⟨h.ob, 0, none⟩)) ∧ w'.cell? ⟨h.ob, 2, none⟩ = some (.int .i64 h.pos) ∧ w'.cell? ⟨p, 0, none⟩ = some (.slice ya xs.length yc)) w6.drew := ⟨d0, d3, d4⟩
    refine wpAnyK_take (i := 0) (v := ?_) rfl (by kernel_rfl) (by kernel_rfl) (by kernel_rfl) (by kernel_rfl) (fun _ _ _ h => h) (Or.inl ⟨by rfl, ?_⟩) hS ?_
    rotate_left
    · intro w0 hS0; obtain ⟨q0, q1, q2⟩ := hS0; go_simp; try with_reducible rfl
    simp only [Act.put, List.setIfInBounds_toArray, List.set_cons_zero, List.set_cons_succ, List.getElem_toArray, List.getElem_cons_succ, List.getElem_cons_zero]
    refine wpAnyK_take (i := 1) (v := ?_) rfl (by kernel_rfl) (by kernel_rfl) (by kernel_rfl) (by kernel_rfl) (fun _ _ _ h => h) (Or.inl ⟨by rfl, ?_⟩) hS ?_
    rotate_left
    · intro w0 hS0; obtain ⟨q0, q1, q2⟩ := hS0; go_simp; try with_reducible rfl
    simp only [Act.put, List.setIfInBounds_toArray, List.set_cons_zero, List.set_cons_succ, List.getElem_toArray, List.getElem_cons_succ, List.getElem_cons_zero]
    refine wpAnyK_take (i := 2) (v := ?_) rfl (by kernel_rfl) (by kernel_rfl) (by kernel_rfl) (by kernel_rfl) (fun _ _ _ h => h) (Or.inl ⟨by rfl, ?_⟩) hS ?_
    rotate_left
    · intro w0 hS0; obtain ⟨q0, q1, q2⟩ := hS0; go_simp; try with_reducible rfl
    simp only [Act.put, List.setIfInBounds_toArray, List.set_cons_zero, List.set_cons_succ, List.getElem_toArray, List.getElem_cons_succ, List.getElem_cons_zero]
    refine wpAnyK_take (i := 3) (v := ?_) rfl (by kernel_rfl) (by kernel_rfl) (by kernel_rfl) (by kernel_rfl) (fun _ _ _ h => h) (Or.inl ⟨by rfl, ?_⟩) hS ?_
    rotate_left
    · intro w0 hS0; obtain ⟨q0, q1, q2⟩ := hS0; go_simp; try with_reducible rfl
    simp only [Act.put, List.setIfInBounds_toArray, List.set_cons_zero, List.set_cons_succ, List.getElem_toArray, List.getElem_cons_succ, List.getElem_cons_zero]
    refine wpAnyK_take (i := 4) (v := ?_) rfl (by kernel_rfl) (by kernel_rfl) (by kernel_rfl) (by kernel_rfl) (fun _ _ _ h => h) (Or.inl ⟨by rfl, ?_⟩) hS ?_
    rotate_left
    · intro w0 hS0; obtain ⟨q0, q1, q2⟩ := hS0; go_simp; try with_reducible rfl
    simp only [Act.put, List.setIfInBounds_toArray, List.set_cons_zero, List.set_cons_succ, List.getElem_toArray, List.getElem_cons_succ, List.getElem_cons_zero]
    refine wpAnyK_take (i := 5) (v := ?_) rfl (by kernel_rfl) (by kernel_rfl) (by kernel_rfl) (by kernel_rfl) (fun _ _ _ h => h) (Or.inl ⟨by rfl, ?_⟩) hS ?_
    rotate_left
    · intro w0 hS0; obtain ⟨q0, q1, q2⟩ := hS0; go_simp; try with_reducible rfl
    simp only [Act.put, List.setIfInBounds_toArray, List.set_cons_zero, List.set_cons_succ, List.getElem_toArray, List.getElem_cons_succ, List.getElem_cons_zero]
    refine wpAnyK_take (i := 6) (v := ?_) rfl (by kernel_rfl) (by kernel_rfl) (by kernel_rfl) (by kernel_rfl) (fun _ _ _ h => h) (Or.inl ⟨by rfl, ?_⟩) hS ?_
    rotate_left
    · intro w0 hS0; obtain ⟨q0, q1, q2⟩ := hS0; go_simp; try with_reducible rfl
    simp only [Act.put, List.setIfInBounds_toArray, List.set_cons_zero, List.set_cons_succ, List.getElem_toArray, List.getElem_cons_succ, List.getElem_cons_zero]
    refine wpAnyK_take (i := 7) (v := ?_) rfl (by kernel_rfl) (by kernel_rfl) (by kernel_rfl) (by kernel_rfl) (fun _ _ _ h => h) (Or.inl ⟨by rfl, ?_⟩) hS ?_
    rotate_left
    · intro w0 hS0; obtain ⟨q0, q1, q2⟩ := hS0; go_simp; try with_reducible rfl
    simp only [Act.put, List.setIfInBounds_toArray, List.set_cons_zero, List.set_cons_succ, List.getElem_toArray, List.getElem_cons_succ, List.getElem_cons_zero]
    refine wpAnyK_take (i := 8) (v := ?_) rfl (by kernel_rfl) (by kernel_rfl) (by kernel_rfl) (by kernel_rfl) (fun _ _ _ h => h) (Or.inl ⟨by rfl, ?_⟩) hS ?_
    rotate_left
    · intro w0 hS0; obtain ⟨q0, q1, q2⟩ := hS0; go_simp; try with_reducible rfl
    simp only [Act.put, List.setIfInBounds_toArray, List.set_cons_zero, List.set_cons_succ, List.getElem_toArray, List.getElem_cons_succ, List.getElem_cons_zero]
    refine wpAnyK_one (i := 9) rfl (by kernel_rfl) rfl ?_
    go_simp
    refine wpAnyK_done (by kernel_rfl) ?_ _
    go_wp2_with fail
    go_ret
    have hF : writeF k xs g.abs h.abs (f0, f1, fs) = ((g.abs.setF h.name (wr (resz e.bs kk) h.pos xs)).setH k (some (h.name, h.mode, q)), 0, ()) := by
      unfold writeF
      rw [if_neg (fun c => c HX.out)]
      show ((g.abs.setF h.name (wr (resz (g.abs.bytes h.name) (max (g.abs.bytes h.name).length (h.pos + xs.length))) h.pos xs)).setH k (some (h.name, h.mode, h.pos + xs.length)), (0 : Int), ()) = _
      rw [HBS.out, HQ.out, HKK.out]
    rw [hF]
    have hql : q ≤ 262144 := by have := HQ.out; have := HFIT.out; omega
    have hst := H6.out.drew.storeTo (off := 2) (c' := #[.pointer (some ⟨h.fb, 0, none⟩), .int .i64 h.mode, .int .i64 (q : Int)]) OB6.out (.int .i64 (q : Int)) (by simp)
    refine ⟨.nilIface, 0, _, rfl, hst, N6.out.drew.setCell _ _, .inl ⟨rfl, rfl⟩, _, R6.out.setH HGK.out h.mode q hql, ?_, ?_, rfl, trivial⟩
    · exact (F6.out.trans (SRep.setH_fr (h := h) HGK.out h.mode q _)).more _
    · rw [abs_setH _ _ _ ((List.getElem?_eq_some_iff.1 HGK.out).1), HGA.out]; rfl
  · obtain ⟨b4, hb4⟩ : ∃ b, v4 = .iface 104 (.pointer (some ⟨b, 0, none⟩)) := by
      rcases HV4.out with ⟨h, _⟩ | ⟨_, b, h, _⟩
      · exact absurd h hx
      · exact ⟨b, h⟩
    subst hb4
    have HX := Lib.hid hx
    clear hx
    go_wp2_with fail
    go_ret
    have hF : writeF k xs g.abs h.abs (f0, f1, fs) = (g.abs, writeX h.abs xs, ()) := by unfold writeF; rw [if_pos HX.out]
    rw [hF]
    exact ⟨_, _, m4, rfl, H4.out, N4.out, HV4.out, g, HR.out.le LL4.out, (Fr.of_le LL4.out _).mono (fun b hb => .inl (.inl hb)), rfl, rfl, trivial⟩
end Go.Proofs.YtcdmdkgiabfbeaaGreatDoor
