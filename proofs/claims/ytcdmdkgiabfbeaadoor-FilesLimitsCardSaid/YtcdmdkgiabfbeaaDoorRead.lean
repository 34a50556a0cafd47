/-
  Read.
-/
import Derived.Test.YtcdmdkgiabfbeaaDoorOp
namespace Go.Proofs.YtcdmdkgiabfbeaaDoor
open Go.RowKit

/-- An open file's bytes from its place on, as its failure cuts them. -/
def readL (t : A) (h : H3) (most : Int) (fl : Fail3) : List UInt8 := leftL (t.bytes h.1) h.2.2 most fl.2.2
def readF (i : Nat) (most : Int) (t : A) (h : H3) (fl : Fail3) : A × Int × List UInt8 :=
  if h.2.1 = 2 then (t, -20, []) else (t.setH i (some (h.1, h.2.1, h.2.2 + (readL t h most fl).length)), 0, readL t h most fl)

/-- A result of bytes in a box: its block was not known in m0. -/
def OutB (m0 : Mem) (v : Value) (m : Mem) (bs : List UInt8) : Prop := Row m v 5 1 bs.length (bs.map byteV) ∧ ∀ b, v.ownBlock = some b → m0 b = none
def BoxB (m0 : Mem) (rb : Nat) (m : Mem) (bs : List UInt8) : Prop := ∃ v, m rb = some (.cells #[v] 33 (0, 0)) ∧ OutB m0 v m bs

theorem OutB.le {m0 m m' : Mem} {v : Value} {bs : List UInt8} (h : OutB m0 v m bs) (l : m.le m') : OutB m0 v m' bs := ⟨h.1.le l, h.2⟩
theorem OutB.low {m0 m1 m : Mem} {v : Value} {bs : List UInt8} (h : OutB m1 v m bs) (l : m0.le m1) : OutB m0 v m bs :=
  ⟨h.1, fun b hb => by
    cases hm : m0 b with
    | none => rfl
    | some o => have := h.2 b hb; rw [l _ _ hm] at this; cases this⟩
theorem BoxB.low {m0 m1 m : Mem} {rb : Nat} {bs : List UInt8} (h : BoxB m1 rb m bs) (l : m0.le m1) : BoxB m0 rb m bs := by
  obtain ⟨v, h1, h2⟩ := h
  exact ⟨v, h1, h2.low l⟩

theorem leftL_length_le (bs : List UInt8) (pos : Nat) (most short : Int) : (leftL bs pos most short).length ≤ bs.length - pos := by
  unfold leftL; rw [List.length_take, List.length_drop]; omega

theorem OutB.set_other {m0 m : Mem} {v : Value} {bs : List UInt8} (h : OutB m0 v m bs) {b : Nat} (o : Obj) {o1 : Obj} (hb : m b = some o1) (ho : ∀ cur fz, o1 ≠ .cells cur 5 fz) : OutB m0 v (m.set b o) bs :=
  ⟨h.1.set_other o (fun e => by
    obtain ⟨cur, fz, hc⟩ := h.1.ty e
    rw [hb] at hc
    exact ho _ _ (Option.some.inj hc)), h.2⟩

/-- No block of a store holds a slice of bytes. -/
theorem SRep.notB {m : Mem} {sb : Nat} {g : G} (r : SRep m sb g) {b : Nat} {c : Array Value} {e : TypeId} {fz : Nat × Nat} (hb : m b = some (.cells c e fz))
    (he : e ≠ 57 ∧ e ≠ 62 ∧ e ≠ 5 ∧ e ≠ 54 ∧ e ≠ 77 ∧ e ≠ 80) : ¬ FP sb g b := by
  have ne : ∀ {c' e' fz'}, m b = some (.cells c' e' fz') → e = e' := fun h => by
    rw [hb] at h; simp only [Option.some.injEq, Obj.cells.injEq] at h; exact h.2.1
  rintro (rfl | rfl | ⟨d, hd, rfl | x⟩ | x | x | ⟨h, hh, rfl⟩)
  · exact he.1 (ne r.store)
  · have := r.map; rw [hb] at this; simp [mapObj] at this
  · exact he.2.1 (ne (r.file d hd))
  · obtain ⟨_, _, hc⟩ := (r.row d hd).ty x; exact he.2.2.1 (ne hc)
  · obtain ⟨_, _, hc⟩ := Row.ty r.fails x; exact he.2.2.2.1 (ne hc)
  · obtain ⟨_, _, hc⟩ := r.opens.ty x; exact he.2.2.2.2.1 (ne hc)
  · exact he.2.2.2.2.2 (ne (r.hnd h hh))

/-- What is known of a store's blocks alone. -/
theorem SRep.keep {m m' : Mem} {sb : Nat} {g : G} (r : SRep m sb g) (k : ∀ b o, FP sb g b → m b = some o → m' b = some o) : SRep m' sb g :=
  { r with
    store := k _ _ (.inl rfl) r.store
    map := k _ _ (.inr (.inl rfl)) r.map
    file := fun e he => k _ _ (.inr (.inr (.inl ⟨e, he, .inl rfl⟩))) (r.file e he)
    row := fun e he => (r.row e he).keep fun b o hb hm => k b o (.inr (.inr (.inl ⟨e, he, .inr hb⟩))) hm
    fails := Row.keep r.fails fun b o hb hm => k b o (.inr (.inr (.inr (.inl hb)))) hm
    opens := r.opens.keep fun b o hb hm => k b o (.inr (.inr (.inr (.inr (.inl hb))))) hm
    hnd := fun h hh => k _ _ (.inr (.inr (.inr (.inr (.inr ⟨h, hh, rfl⟩))))) (r.hnd h hh) }

/-- Another block is written. -/
theorem SRep.other {m : Mem} {sb : Nat} {g : G} (r : SRep m sb g) {b : Nat} (o : Obj) (hb : ¬ FP sb g b) : SRep (m.set b o) sb g :=
  r.keep fun c x hc hx => by rw [Mem.set_ne _ _ (fun e => hb (by rw [← e]; exact hc))]; exact hx

set_option maxHeartbeats 4000000 in
theorem read1_any (sb k p rb : Nat) (g : G) (h : Hnd) (most : Int) (fl : Fail3) (w : World) (m0 m : Mem) (hm : Has w m) (hr : SRep m sb g) (hk : g.O[k]? = some (some h)) (hp : BoxI m p most)
    (hb : BoxB m0 rb m []) (h0 : ∀ b, m b = none → m0 b = none) :
    Calls Tryd.prog 46 #[.pointer (some ⟨h.ob, 0, none⟩), failV fl, .pointer (some ⟨p, 0, none⟩), .pointer (some ⟨rb, 0, none⟩)] w
      (DoR w m sb g (fun b => b = rb) (readF k most g.abs h.abs fl) (BoxB m0 rb)) := by
  obtain ⟨e, he, hfb, hname, hlook⟩ := hr.fileOf hk
  have hob := hr.hnd h (List.mem_of_getElem? hk)
  have hrow := hr.row e he
  have hfile := hr.file e he
  rw [hfb] at hfile
  have hbs : g.abs.bytes h.name = e.bs := by unfold A.bytes; rw [hlook]; rfl
  have hsz := hr.bsz e he
  have hpos := hr.pos h (List.mem_of_getElem? hk)
  obtain ⟨f0, f1, fs⟩ := fl
  have hrl : readL g.abs h.abs most (f0, f1, fs) = leftL e.bs h.pos most fs := by
    show leftL (g.abs.bytes h.name) h.pos most fs = _; rw [hbs]
  have hll := leftL_length_le e.bs h.pos most fs
  have hfr := hm.fresh (Nat.le_refl w.heap.size)
  have HLL := Lib.hid hll
  have HRL := Lib.hid hrl
  have HROW := Lib.hid hrow
  have HFILE := Lib.hid hfile
  have H := Lib.hid hm
  have HR := Lib.hid hr
  have HK := Lib.hid hk
  have HP := Lib.hid hp
  have HB := Lib.hid hb
  have HOB := Lib.hid hob
  have H0 := Lib.hid h0
  have HA := Lib.hid (hm.alloc (.cells #[.int .i64 f0, .int .i64 f1, .int .i64 fs] 54))
  have LA := Lib.hid (Mem.le_set m (.cells #[.int .i64 f0, .int .i64 f1, .int .i64 fs] 54) hfr)
  clear hm hr hob hrow hfile hbs hlook hp he hname hfb hrl hb h0 hfr hll
  simp only [failV]
  by_cases hmode : h.mode = 2
  · have HF : Hid (readF k most g.abs h.abs (f0, f1, fs) = (g.abs, -20, [])) := by
      show (if h.mode = 2 then _ else _) = _; rw [if_pos hmode]
    have HM := Lib.hid hmode
    clear hmode
    go_enter Tryd.func46, Tryd.ntmps46
    go_wp2_with fail
    refine (not_any h.ob h.fb h.mode h.pos 2 _ _ HA.out (LA.out _ _ HOB.out)).mono ?_
    rintro e1 w2 ⟨v, m2, rfl, l2, h2, n2, hv⟩
    rw [if_pos HM.out] at hv
    have HV := Lib.hid hv
    have L2 := Lib.hid l2
    have H2 := Lib.hid h2
    have N2 := Lib.hid n2
    obtain ⟨b, rfl⟩ : ∃ b, v = .iface 98 (.pointer (some ⟨b, 0, none⟩)) := by
      rcases hv with ⟨h, _⟩ | ⟨_, b, h, _⟩
      · cases h
      · exact ⟨b, h⟩
    clear hv l2 h2 n2
    go_wp2_with fail
    go_ret
    rw [HF.out]
    have ll := Mem.le_trans LA.out L2.out
    obtain ⟨v0, hv0, hv1⟩ := HB.out
    exact ⟨_, -20, m2, rfl, H2.out, ((Env.refl w).alloc _).trans N2.out, HV.out, g, HR.out.le ll, (Fr.of_le ll _).mono (fun b hb => .inl (.inl hb)), rfl, rfl, v0, ll _ _ hv0, hv1.le ll⟩
  · have HF : Hid (readF k most g.abs h.abs (f0, f1, fs) = (g.abs.setH k (some (h.name, h.mode, h.pos + (leftL e.bs h.pos most fs).length)), 0, leftL e.bs h.pos most fs)) := by
      show (if h.mode = 2 then _ else _) = _; rw [if_neg hmode, HRL.out]; rfl
    have HM := Lib.hid hmode
    clear hmode
    go_enter Tryd.func46, Tryd.ntmps46
    go_wp2_with fail
    refine (not_any h.ob h.fb h.mode h.pos 2 _ _ HA.out (LA.out _ _ HOB.out)).mono ?_
    rintro e1 w2 ⟨v, m2, rfl, l2, h2, n2, hv⟩
    rw [if_neg HM.out] at hv
    obtain rfl : v = .nilIface := by
      rcases hv with ⟨_, h⟩ | ⟨h, _⟩
      · exact h
      · exact absurd rfl h
    have hbox := l2 _ _ (Mem.set_same m w.heap.size (.cells #[.int .i64 f0, .int .i64 f1, .int .i64 fs] 54))
    have ll := Mem.le_trans LA.out l2
    obtain ⟨v0, hv0, hv1⟩ := HB.out
    have c0 : w2.cell? ⟨p, 0, none⟩ = some (.int .i64 most) := by rw [h2.cell (ll _ _ HP.out)]; rfl
    have b0 : w2.cell? ⟨w.heap.size, 0, none⟩ = some (.int .i64 f0) := by rw [h2.cell hbox]; rfl
    have b1 : w2.cell? ⟨w.heap.size, 1, none⟩ = some (.int .i64 f1) := by rw [h2.cell hbox]; rfl
    have b2 : w2.cell? ⟨w.heap.size, 2, none⟩ = some (.int .i64 fs) := by rw [h2.cell hbox]; rfl
    have HV0 := Lib.hid hv0
    have HV1 := Lib.hid hv1
    have LL := Lib.hid ll
    have H2 := Lib.hid h2
    have N2 := Lib.hid n2
    clear hv l2 h2 n2 hbox ll hv0 hv1
    generalize w.heap.size = tb at *
    go_wp2_with fail
    refine (left_any h.ob h.fb h.pos h.mode most f0 f1 fs e.bv e.bs _ _ H2.out (LL.out _ _ HOB.out) (LL.out _ _ HFILE.out) (HROW.out.le LL.out) hsz hpos).mono ?_
    rintro e1 w3 ⟨y, m3, rfl, l3, h3, n3, hy, hty⟩
    have hle : (leftL e.bs h.pos most fs).length ≤ 1000000 := by have := HLL.out; omega
    have HY := Lib.hid (hy.le l3)
    have HLE := Lib.hid hle
    have L3 := Lib.hid l3
    have H3 := Lib.hid h3
    have N3 := Lib.hid n3
    clear l3 h3 n3 hy hty hle c0 b0 b1 b2
    go_wp2_with fail
    refine (cloneB_any y _ _ _ H3.out HY.out HLE.out).mono ?_
    rintro e1 w4 ⟨c, m4, rfl, l4, h4, n4, hc, hcf⟩
    obtain ⟨va, vc, rfl, hvc⟩ := hc.lenV
    have L4 := Lib.hid (Mem.le_trans LL.out (Mem.le_trans L3.out l4))
    have H4 := Lib.hid h4
    have N4 := Lib.hid (N2.out.trans (N3.out.trans n4))
    have HC := Lib.hid hc
    have HCF := Lib.hid hcf
    have d0 : w4.cell? ⟨rb, 0, none⟩ = some v0 := by rw [h4.cell (L4.out _ _ HV0.out)]; rfl
    have d1 : w4.frozen? ⟨rb, 0, none⟩ = false := h4.froz (L4.out _ _ HV0.out)
    clear l4 h4 n4 hc hcf
    go_wp2_with fail
    have rne : h.ob ≠ rb := fun e => by
      have h1 := HV0.out
      rw [← e, HOB.out] at h1
      simp [hndObj] at h1
    have hob5 : (m4.set rb (.cells #[.slice va (leftL e.bs h.pos most fs).length vc] 33 (0, 0))) h.ob = some (hndObj h) := by rw [Mem.set_ne _ _ rne]; exact L4.out _ _ HOB.out
    refine wp_opaque w _ (H4.out.storeTo (off := 0) (c' := #[.slice va (leftL e.bs h.pos most fs).length vc]) (L4.out _ _ HV0.out) _ (by simp)) ((((Env.refl w).alloc _).trans N4.out).setCell _ _) ?_
    intro w5 h5 n5
    have e0 : w5.cell? ⟨h.ob, 2, none⟩ = some (.int .i64 h.pos) := by rw [h5.cell hob5]; rfl
    have e1 : w5.frozen? ⟨h.ob, 2, none⟩ = false := h5.froz hob5
    have e2 : w5.cell? ⟨rb, 0, none⟩ = some (.slice va (leftL e.bs h.pos most fs).length vc) := by rw [h5.cell (Mem.set_same _ _ _)]; rfl
    have wk : IntKind.i64.wrap ((h.pos : Int) + ((leftL e.bs h.pos most fs).length : Int)) = (h.pos : Int) + ((leftL e.bs h.pos most fs).length : Int) := by
      have := HLE.out
      simp [IntKind.wrap, IntKind.signed, IntKind.bits]; omega
    have H5 := Lib.hid h5
    have N5 := Lib.hid n5
    have HOB5 := Lib.hid hob5
    clear h5 n5 hob5 d0 d1
    refine wp_region_K 9 (fun w' => w'.cell? ⟨h.ob, 2, none⟩ = some (.int .i64 h.pos) ∧ w'.cell? ⟨rb, 0, none⟩ = some (.slice va (leftL e.bs h.pos most fs).length vc)) (by kernel_rfl) ?_
    have hS : (fun w' : World => w'.cell? ⟨h.ob, 2, none⟩ = some (.int .i64 h.pos) ∧ w'.cell? ⟨rb, 0, none⟩ = some (.slice va (leftL e.bs h.pos most fs).length vc)) w5.drew := ⟨e0, e2⟩
    refine wpAnyK_take (i := 0) (v := ?_) rfl (by kernel_rfl) (by kernel_rfl) (by kernel_rfl) (by kernel_rfl) (fun _ _ _ h => h) (Or.inl ⟨by rfl, ?_⟩) hS ?_
    rotate_left
    · intro w0 hS0; obtain ⟨q0, q1⟩ := hS0; go_simp; try with_reducible rfl
    simp only [Act.put, List.setIfInBounds_toArray, List.set_cons_zero, List.set_cons_succ, List.getElem_toArray, List.getElem_cons_succ, List.getElem_cons_zero]
    refine wpAnyK_take (i := 1) (v := ?_) rfl (by kernel_rfl) (by kernel_rfl) (by kernel_rfl) (by kernel_rfl) (fun _ _ _ h => h) (Or.inl ⟨by rfl, ?_⟩) hS ?_
    rotate_left
    · intro w0 hS0; obtain ⟨q0, q1⟩ := hS0; go_simp; try with_reducible rfl
    simp only [Act.put, List.setIfInBounds_toArray, List.set_cons_zero, List.set_cons_succ, List.getElem_toArray, List.getElem_cons_succ, List.getElem_cons_zero]
    refine wpAnyK_take (i := 2) (v := ?_) rfl (by kernel_rfl) (by kernel_rfl) (by kernel_rfl) (by kernel_rfl) (fun _ _ _ h => h) (Or.inl ⟨by rfl, ?_⟩) hS ?_
    rotate_left
    · intro w0 hS0; obtain ⟨q0, q1⟩ := hS0; go_simp; try with_reducible rfl
    simp only [Act.put, List.setIfInBounds_toArray, List.set_cons_zero, List.set_cons_succ, List.getElem_toArray, List.getElem_cons_succ, List.getElem_cons_zero]
    refine wpAnyK_take (i := 3) (v := ?_) rfl (by kernel_rfl) (by kernel_rfl) (by kernel_rfl) (by kernel_rfl) (fun _ _ _ h => h) (Or.inl ⟨by rfl, ?_⟩) hS ?_
    rotate_left
    · intro w0 hS0; obtain ⟨q0, q1⟩ := hS0; go_simp; try with_reducible rfl
    simp only [Act.put, List.setIfInBounds_toArray, List.set_cons_zero, List.set_cons_succ, List.getElem_toArray, List.getElem_cons_succ, List.getElem_cons_zero]
    refine wpAnyK_take (i := 4) (v := ?_) rfl (by kernel_rfl) (by kernel_rfl) (by kernel_rfl) (by kernel_rfl) (fun _ _ _ h => h) (Or.inl ⟨by rfl, ?_⟩) hS ?_
    rotate_left
    · intro w0 hS0; obtain ⟨q0, q1⟩ := hS0; go_simp; try with_reducible rfl
    simp only [Act.put, List.setIfInBounds_toArray, List.set_cons_zero, List.set_cons_succ, List.getElem_toArray, List.getElem_cons_succ, List.getElem_cons_zero]
    refine wpAnyK_take (i := 5) (v := ?_) rfl (by kernel_rfl) (by kernel_rfl) (by kernel_rfl) (by kernel_rfl) (fun _ _ _ h => h) (Or.inl ⟨by rfl, ?_⟩) hS ?_
    rotate_left
    · intro w0 hS0; obtain ⟨q0, q1⟩ := hS0; go_simp; try with_reducible rfl
    simp only [Act.put, List.setIfInBounds_toArray, List.set_cons_zero, List.set_cons_succ, List.getElem_toArray, List.getElem_cons_succ, List.getElem_cons_zero]
    refine wpAnyK_take (i := 6) (v := ?_) rfl (by kernel_rfl) (by kernel_rfl) (by kernel_rfl) (by kernel_rfl) (fun _ _ _ h => h) (Or.inl ⟨by rfl, ?_⟩) hS ?_
    rotate_left
    · intro w0 hS0; obtain ⟨q0, q1⟩ := hS0; go_simp; try with_reducible rfl
    simp only [Act.put, List.setIfInBounds_toArray, List.set_cons_zero, List.set_cons_succ, List.getElem_toArray, List.getElem_cons_succ, List.getElem_cons_zero]
    refine wpAnyK_take (i := 7) (v := ?_) rfl (by kernel_rfl) (by kernel_rfl) (by kernel_rfl) (by kernel_rfl) (fun _ _ _ h => h) (Or.inl ⟨by rfl, ?_⟩) hS ?_
    rotate_left
    · intro w0 hS0; obtain ⟨q0, q1⟩ := hS0; go_simp; try with_reducible rfl
    simp only [Act.put, List.setIfInBounds_toArray, List.set_cons_zero, List.set_cons_succ, List.getElem_toArray, List.getElem_cons_succ, List.getElem_cons_zero]
    refine wpAnyK_take (i := 8) (v := ?_) rfl (by kernel_rfl) (by kernel_rfl) (by kernel_rfl) (by kernel_rfl) (fun _ _ _ h => h) (Or.inl ⟨by rfl, ?_⟩) hS ?_
    rotate_left
    · intro w0 hS0; obtain ⟨q0, q1⟩ := hS0; go_simp; try with_reducible rfl
    simp only [Act.put, List.setIfInBounds_toArray, List.set_cons_zero, List.set_cons_succ, List.getElem_toArray, List.getElem_cons_succ, List.getElem_cons_zero]
    refine wpAnyK_one (i := 9) rfl (by kernel_rfl) rfl ?_
    go_simp
    refine wpAnyK_done (by kernel_rfl) ?_ _
    go_wp2_with fail
    go_ret
    rw [HF.out]
    have r4 := HR.out.le L4.out
    have nrb := HR.out.notB HV0.out (by decide)
    have r5 := r4.other (.cells #[.slice va (leftL e.bs h.pos most fs).length vc] 33 (0, 0)) nrb
    have hpl : h.pos + (leftL e.bs h.pos most fs).length ≤ 262144 := by
      have := HLL.out
      omega
    have hst := H5.out.drew.storeTo (off := 2) (c' := #[.pointer (some ⟨h.fb, 0, none⟩), .int .i64 h.mode, .int .i64 ((h.pos : Int) + ((leftL e.bs h.pos most fs).length : Int))]) HOB5.out (.int .i64 ((h.pos : Int) + ((leftL e.bs h.pos most fs).length : Int))) (by simp)
    have hobj : (.cells #[.pointer (some ⟨h.fb, 0, none⟩), .int .i64 h.mode, .int .i64 ((h.pos : Int) + ((leftL e.bs h.pos most fs).length : Int))] 80 (0, 0) : Obj) = hndObj { h with mode := h.mode, pos := h.pos + (leftL e.bs h.pos most fs).length } := by
      unfold hndObj; simp only [Int.natCast_add]
    rw [hobj] at hst
    refine ⟨.nilIface, 0, _, rfl, hst, N5.out.drew.setCell _ _, .inl ⟨rfl, rfl⟩, _, r5.setH HK.out h.mode _ hpl, ?_, ?_, rfl, ?_⟩
    · refine ((Fr.of_le L4.out (fun b => FP sb g b ∨ b = rb)).trans (Fr.set _ (.inl (.inr rfl)))).trans ((SRep.setH_fr HK.out h.mode (h.pos + (leftL e.bs h.pos most fs).length) _).more _)
    · rw [abs_setH _ _ _ ((List.getElem?_eq_some_iff.1 HK.out).1)]; rfl
    · refine ⟨_, by rw [Mem.set_ne _ _ (Ne.symm rne)]; exact Mem.set_same _ _ _, ?_⟩
      have o1 : OutB m0 (.slice va (leftL e.bs h.pos most fs).length vc) m4 (leftL e.bs h.pos most fs) := ⟨HC.out, fun b hb => H0.out b (Mem.none_le LL.out (Mem.none_le L3.out (HCF.out b hb)))⟩
      exact (o1.set_other _ (L4.out _ _ HV0.out) (by simp)).set_other _ HOB5.out (by simp [hndObj])
/-- What an operation answers that yields something beside. -/
def AnsB (w : World) (R : Value → Mem → Int → Prop) (e : Ending) (w2 : World) : Prop :=
  ∃ v x m2, e = .returned (.tuple #[v, .int .i64 x]) ∧ Has w2 m2 ∧ Env w w2 ∧ R v m2 x

theorem Has.same {w : World} {m : Mem} (h : Has w m) {b : Nat} {c : Array Value} {e : TypeId} {fz : Nat × Nat} {off : Nat} {v : Value} (hb : m b = some (.cells c e fz)) (hv : c.setIfInBounds off v = c) : Has (w.setCell ⟨b, off, none⟩ v) m := by
  have := h.storeTo hb v hv
  rwa [Mem.set_eq _ hb] at this

theorem enters_read1 : Enters 46 := fun _ _ => by kernel_rfl

set_option maxHeartbeats 1000000 in
theorem read_any (sb : Nat) (id most : Int) (g : G) (w : World) (m : Mem) (hm : Has w m) (hr : SRep m sb g) (hG : GlobOk m) (h0 : ¬ FP sb g 0) (hn : g.n ≤ 999999) :
    Calls Tryd.prog 14 #[.pointer (some ⟨sb, 0, none⟩), .int .i64 id, .int .i64 most] w
      (AnsB w fun v m2 x => OpR m sb g (fun _ => False) (A.withA g.abs id [] (readF (id - 1).toNat most)) (fun m2 bs => OutB m v m2 bs) m2 x) := by
  have hfr := hm.fresh (Nat.le_refl w.heap.size)
  have h1 := hm.alloc (.cells #[.int .i64 most] 3)
  have l1 := Mem.le_set m (.cells #[.int .i64 most] 3) hfr
  have hfr2 := h1.fresh (Nat.le_refl _)
  have h2 := h1.alloc (.cells #[.slice none 0 0] 33)
  have l2 := Mem.le_set _ (.cells #[.slice none 0 0] 33) hfr2
  have hsz : (w.alloc (.cells #[.int .i64 most] 3)).heap.size = w.heap.size + 1 := by simp
  rw [hsz] at h2 l2 hfr2
  have l12 := Mem.le_trans l1 l2
  have hE0 : ¬ ((0 : Nat) = w.heap.size + 1) := by omega
  have hnsb : sb ≠ w.heap.size := Ne.symm (Mem.ne_of_none hfr hr.store)
  have hnsb2 : sb ≠ w.heap.size + 1 := Ne.symm (Mem.ne_of_none hfr2 (l1 _ _ hr.store))
  have hb0 : BoxB m (w.heap.size + 1) (((m.set w.heap.size (.cells #[.int .i64 most] 3)).set (w.heap.size + 1) (.cells #[.slice none 0 0] 33)).set sb (storeObj g.tick)) [] :=
    ⟨.slice none 0 0, by rw [Mem.set_ne _ _ (Ne.symm hnsb2), Mem.set_same], Row.nil _ _ _, fun b hb => by cases hb⟩
  have hW := with_op [] (readF (id - 1).toNat most) (BoxB m (w.heap.size + 1)) (fun b => b = w.heap.size + 1) sb id g 46 #[.pointer (some ⟨w.heap.size, 0, none⟩), .pointer (some ⟨w.heap.size + 1, 0, none⟩)] _ _ h2 (hr.le l12) (hG.le l12) h0 hE0 hn enters_read1
    (fun k h hk hid w1 m1 l3 hw1 hr1 => by
      have hbox : BoxI m1 w.heap.size most := l3 _ _ (by
        rw [Mem.set_ne _ _ (Ne.symm hnsb), Mem.set_ne _ _ (by omega)]
        exact Mem.set_same _ _ _)
      have hk' : (id - 1).toNat = k := by omega
      rw [hk']
      obtain ⟨v, b1, b2⟩ := hb0
      exact read1_any sb k w.heap.size (w.heap.size + 1) g.tick h most g.now w1 m m1 hw1 hr1 hk hbox ⟨v, l3 _ _ b1, b2.le l3⟩ (fun b hb => Mem.none_set (Mem.none_set (Mem.none_set (Mem.none_le l3 hb)))))
    (fun m1 l3 => by obtain ⟨v, b1, b2⟩ := hb0; exact ⟨v, l3 _ _ b1, b2.le l3⟩)
  have HW := Lib.hid hW
  have L12 := Lib.hid l12
  have HFR := Lib.hid hfr
  have HFR2 := Lib.hid hfr2
  have HO := Lib.hid hr
  clear hm hr hG h1 h2 l1 l2 l12 hW hfr hfr2 hb0
  go_enter Tryd.func14, Tryd.ntmps14
  go_wp2_with fail
  refine HW.out.mono ?_
  rintro e w2 ⟨x, m2, rfl, h2, n2, hx⟩
  obtain ⟨g2, x1, x2, x3, x4, x5⟩ := hx
  obtain ⟨v, hv1, hv2⟩ := x5
  obtain ⟨va, vc, rfl, hvc⟩ := hv2.1.lenV
  have c0 := h2.cell (o := 0) hv1
  have f0 : w2.frozen? ⟨w.heap.size + 1, 0, none⟩ = false := h2.froz hv1
  have c0' : w2.cell? ⟨w.heap.size + 1, 0, none⟩ = some (.slice va (A.withA g.abs id [] (readF (id - 1).toNat most)).2.2.length vc) := by rw [c0]; rfl
  have H2 := Lib.hid h2
  have N2 := Lib.hid n2
  have X1 := Lib.hid x1
  have X2 := Lib.hid x2
  have X3 := Lib.hid x3
  have X4 := Lib.hid x4
  have HV1 := Lib.hid hv1
  have HV2 := Lib.hid hv2
  clear h2 n2 x1 x2 x3 x4 hv1 hv2 c0
  go_wp2_with fail
  refine bodyPost_ret (v := .tuple #[.slice va (A.withA g.abs id [] (readF (id - 1).toNat most)).2.2.length vc, .int .i64 x]) (by simp [results, Tryd.results14, go_sem, c0']) rfl ?_
  refine ⟨_, x, m2, rfl, H2.out.same HV1.out (by simp), ((((Env.refl w).alloc _).alloc _).trans N2.out).setCell _ _, ?_⟩
  have hop : OpR _ sb g (fun b => b = w.heap.size + 1) (A.withA g.abs id [] (readF (id - 1).toNat most)) (fun m2 bs => OutB m (.slice va (A.withA g.abs id [] (readF (id - 1).toNat most)).2.2.length vc) m2 bs) m2 x := ⟨g2, X1.out, X2.out, X3.out, X4.out, HV2.out⟩
  exact hop.ahead L12.out (fun b hb => by subst hb; exact Mem.none_set HFR2.out) (fun h => h)
end Go.Proofs.YtcdmdkgiabfbeaaDoor
