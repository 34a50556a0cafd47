/-
  Line.
-/
import Derived.Test.YtcdmdkgiabfbeaaGreatDoorK06
import Derived.Test.YtcdmdkgiabfbeaaGreatDoorK07
import Derived.Test.YtcdmdkgiabfbeaaGreatDoorK12
import Derived.Test.YtcdmdkgiabfbeaaGreatDoorK08
import Derived.BigRegion
import Derived.Laws.BytesArg
namespace Go.Proofs.YtcdmdkgiabfbeaaGreatDoor
open Go.RowKit

def lineF (i : Nat) (most : Int) (t : A) (h : H3) (fl : Fail3) : A × Int × (List UInt8 × Bool) :=
  if h.2.1 = 2 then (t, -20, ([], false)) else if (t.bytes h.1).length ≤ h.2.2 then (t, 0, ([], false)) else
    if 0 ≤ Lib.indexByte (readL t h most fl) 10 then
      (t.setH i (some (h.1, h.2.1, h.2.2 + 1 + (Lib.indexByte (readL t h most fl) 10).toNat)), 0, ((readL t h most fl).take (Lib.indexByte (readL t h most fl) 10).toNat, true))
    else (t.setH i (some (h.1, h.2.1, h.2.2 + (readL t h most fl).length)), 0, (readL t h most fl, true))

theorem indexByte_lt (l : List UInt8) (c : UInt8) : -1 ≤ Lib.indexByte l c ∧ Lib.indexByte l c < l.length := by
  induction l with
  | nil => simp [Lib.indexByte]
  | cons b l ih =>
    simp only [Lib.indexByte]
    split
    · simp
    · rename_i h1
      split
      · rename_i h2
        have h2' : Lib.indexByte l c = -1 := by simpa using h2
        simp only [List.length_cons]; omega
      · rename_i h2
        have h2' : Lib.indexByte l c ≠ -1 := by simpa using h2
        simp only [List.length_cons]; omega

theorem Fr.both {m m2 : Mem} {P P' : Nat → Prop} (h : Fr m m2 P P') (E : Nat → Prop) : Fr m m2 (fun b => P b ∨ E b) (fun b => P' b ∨ E b) :=
  ⟨fun b o hb hp => h.keep b o hb (fun x => hp (.inl x)), fun b hb => by
    rcases hb with hb | hb
    · rcases h.new b hb with x | x; exact .inl (.inl x); exact .inr x
    · exact .inl (.inr hb)⟩

/-- A box of a truth. -/
def BoxT (m : Mem) (p : Nat) (b : Bool) : Prop := m p = some (.cells #[.bool b] 4 (0, 0))
def BoxL (m0 : Mem) (rb tb : Nat) (m : Mem) (x : List UInt8 × Bool) : Prop := BoxB m0 rb m x.1 ∧ BoxT m tb x.2

theorem A.setH_setH (a : A) (i : Nat) (x y : Option H3) : (a.setH i x).setH i y = a.setH i y := by
  simp only [A.setH, A.mk.injEq, true_and, and_true]
  funext j; split <;> rfl

/-- The end of Read and of Line: the bytes are cut off and laid into their box, the place goes on. -/
theorem cut_wind {m : Mem} {v : Value} {l : List UInt8} (h : Wind m v l) {g o cap : Nat} (hv : v = .slice (some ⟨g, o, none⟩) l.length cap) (n : Nat) (hn : n ≤ l.length) : Wind m (.slice (some ⟨g, o, none⟩) n cap) (l.take n) := by
  rcases h with ⟨h, _⟩ | ⟨g', o', cap', h1, h2, h3, c, e, fz, h4, h5⟩
  · rw [hv] at h; cases h
  · rw [hv] at h1
    simp only [Value.slice.injEq, Option.some.injEq, Addr.mk.injEq] at h1
    obtain ⟨⟨rfl, rfl, _⟩, _, rfl⟩ := h1
    refine .inr ⟨g, o, cap, by rw [List.length_take, Nat.min_eq_left hn], by rw [List.length_take]; omega, h3, c, e, fz, h4, fun j u hj => h5 j u ?_⟩
    rw [List.map_take, List.getElem?_take] at hj
    split at hj
    · exact hj
    · cases hj

set_option maxHeartbeats 8000000 in
theorem line1_any (sb k p rb tb : Nat) (g : G) (h : Hnd) (most : Int) (fl : Fail3) (w : World) (m0 m : Mem) (hm : Has w m) (hr : SRep m sb g) (hk : g.O[k]? = some (some h)) (hp : BoxI m p most)
    (hb : BoxB m0 rb m []) (ht : BoxT m tb false) (h0 : ∀ b, m b = none → m0 b = none) :
    Calls Tryz.prog 74 #[.pointer (some ⟨h.ob, 0, none⟩), failV fl, .pointer (some ⟨tb, 0, none⟩), .pointer (some ⟨p, 0, none⟩), .pointer (some ⟨rb, 0, none⟩)] w
      (DoR w m sb g (fun b => b = rb ∨ b = tb) (lineF k most g.abs h.abs fl) (BoxL m0 rb tb)) := by
  obtain ⟨e, he, hfb, hname, hlook⟩ := hr.fileOf hk
  have hob := hr.hnd h (List.mem_of_getElem? hk)
  have hrow := hr.row e he
  have hfile := hr.file e he
  rw [hfb] at hfile
  have hbs : g.abs.bytes h.name = e.bs := by unfold A.bytes; rw [hlook]; rfl
  have hsz := hr.bsz e he
  have hpos := hr.pos h (List.mem_of_getElem? hk)
  obtain ⟨f0, f1, fs⟩ := fl
  have hrl : readL g.abs h.abs most (f0, f1, fs) = leftL e.bs h.pos most fs := by
    show leftL (g.abs.bytes h.name) h.pos most fs = _; rw [hbs]
  have hll := leftL_length_le e.bs h.pos most fs
  have hfr := hm.fresh (Nat.le_refl w.heap.size)
  have HBS := Lib.hid hbs
  have HLL := Lib.hid hll
  have HRL := Lib.hid hrl
  have HROW := Lib.hid hrow
  have HFILE := Lib.hid hfile
  have H := Lib.hid hm
  have HR := Lib.hid hr
  have HK := Lib.hid hk
  have HP := Lib.hid hp
  have HB := Lib.hid hb
  have HT := Lib.hid ht
  have HOB := Lib.hid hob
  have H0 := Lib.hid h0
  have HA := Lib.hid (hm.alloc (.cells #[.int .i64 f0, .int .i64 f1, .int .i64 fs] 47))
  have LA := Lib.hid (Mem.le_set m (.cells #[.int .i64 f0, .int .i64 f1, .int .i64 fs] 47) hfr)
  clear hm hr hob hrow hfile hbs hlook hp he hname hfb hrl hb ht h0 hfr hll hk
  simp only [failV]
  by_cases hmode : h.mode = 2
  · have HF : Hid (lineF k most g.abs h.abs (f0, f1, fs) = (g.abs, -20, ([], false))) := by
      show (if h.mode = 2 then _ else _) = _; rw [if_pos hmode]
    have HM := Lib.hid hmode
    clear hmode
    go_enter Tryz.func74, Tryz.ntmps74
    go_wp2_with fail
    refine (not_any h.ob h.fb h.mode h.pos 2 _ _ HA.out (LA.out _ _ HOB.out)).mono ?_
    rintro e1 w2 ⟨v, m2, rfl, l2, h2, n2, hv⟩
    rw [if_pos HM.out] at hv
    have HV := Lib.hid hv
    have L2 := Lib.hid l2
    have H2 := Lib.hid h2
    have N2 := Lib.hid n2
    obtain ⟨b, rfl⟩ : ∃ b, v = .iface 104 (.pointer (some ⟨b, 0, none⟩)) := by
      rcases hv with ⟨h, _⟩ | ⟨_, b, h, _⟩
      · cases h
      · exact ⟨b, h⟩
    clear hv l2 h2 n2
    go_wp2_with fail
    go_quiet (fail)
    go_wp2_with fail
    go_ret
    rw [HF.out]
    have ll := Mem.le_trans LA.out L2.out
    obtain ⟨v0, hv0, hv1⟩ := HB.out
    exact ⟨_, -20, m2, rfl, H2.out.drewN _, (((Env.refl w).alloc _).trans N2.out).drewN _, HV.out, g, HR.out.le ll, (Fr.of_le ll _).mono (fun b hb => .inl (.inl hb)), rfl, rfl, ⟨v0, ll _ _ hv0, hv1.le ll⟩, ll _ _ HT.out⟩
  · obtain ⟨ba, bc, hbv, hbc⟩ := HROW.out.lenV
    have HBV := Lib.hid hbv
    clear hbv
    by_cases hend : e.bs.length ≤ h.pos
    · have HF : Hid (lineF k most g.abs h.abs (f0, f1, fs) = (g.abs, 0, ([], false))) := by
        show (if h.mode = 2 then _ else if (g.abs.bytes h.name).length ≤ h.pos then _ else _) = _; rw [if_neg hmode, HBS.out, if_pos hend]
      have HM := Lib.hid hmode
      clear hmode
      go_enter Tryz.func74, Tryz.ntmps74
      go_wp2_with fail
      refine (not_any h.ob h.fb h.mode h.pos 2 _ _ HA.out (LA.out _ _ HOB.out)).mono ?_
      rintro e1 w2 ⟨v, m2, rfl, l2, h2, n2, hv⟩
      rw [if_neg HM.out] at hv
      obtain rfl : v = .nilIface := by
        rcases hv with ⟨_, h⟩ | ⟨h, _⟩
        · exact h
        · exact absurd rfl h
      have ll := Mem.le_trans LA.out l2
      have c0 : w2.cell? ⟨h.ob, 2, none⟩ = some (.int .i64 h.pos) := by rw [h2.cell (ll _ _ HOB.out)]; rfl
      have c1 : w2.cell? ⟨h.ob, 0, none⟩ = some (.pointer (some ⟨h.fb, 0, none⟩)) := by rw [h2.cell (ll _ _ HOB.out)]; rfl
      have c2 : w2.cell? ⟨h.fb, 0, none⟩ = some (.slice ba e.bs.length bc) := by rw [h2.cell (ll _ _ HFILE.out), ← HBV.out]; rfl
      have LL := Lib.hid ll
      have H2 := Lib.hid h2
      have N2 := Lib.hid n2
      clear hv l2 h2 n2 ll
      go_wp2_with fail
      go_quiet (fail)
      go_wp2_with fail
      go_ret
      rw [HF.out]
      obtain ⟨v0, hv0, hv1⟩ := HB.out
      exact ⟨_, 0, m2, rfl, H2.out.drewN _, (((Env.refl w).alloc _).trans N2.out).drewN _, .inl ⟨rfl, rfl⟩, g, HR.out.le LL.out, (Fr.of_le LL.out _).mono (fun b hb => .inl (.inl hb)), rfl, rfl, ⟨v0, LL.out _ _ hv0, hv1.le LL.out⟩, LL.out _ _ HT.out⟩
    · have HM := Lib.hid hmode
      have HEND := Lib.hid hend
      clear hmode
      go_enter Tryz.func74, Tryz.ntmps74
      go_wp2_with fail
      refine (not_any h.ob h.fb h.mode h.pos 2 _ _ HA.out (LA.out _ _ HOB.out)).mono ?_
      rintro e1 w2 ⟨v, m2, rfl, l2, h2, n2, hv⟩
      rw [if_neg HM.out] at hv
      obtain rfl : v = .nilIface := by
        rcases hv with ⟨_, h⟩ | ⟨h, _⟩
        · exact h
        · exact absurd rfl h
      have ll := Mem.le_trans LA.out l2
      have c0 : w2.cell? ⟨h.ob, 2, none⟩ = some (.int .i64 h.pos) := by rw [h2.cell (ll _ _ HOB.out)]; rfl
      have c1 : w2.cell? ⟨h.ob, 0, none⟩ = some (.pointer (some ⟨h.fb, 0, none⟩)) := by rw [h2.cell (ll _ _ HOB.out)]; rfl
      have c2 : w2.cell? ⟨h.fb, 0, none⟩ = some (.slice ba e.bs.length bc) := by rw [h2.cell (ll _ _ HFILE.out), ← HBV.out]; rfl
      have hbox := l2 _ _ (Mem.set_same m w.heap.size (.cells #[.int .i64 f0, .int .i64 f1, .int .i64 fs] 47))
      have t0 : w2.cell? ⟨tb, 0, none⟩ = some (.bool false) := by rw [h2.cell (ll _ _ HT.out)]; rfl
      have t1 : w2.frozen? ⟨tb, 0, none⟩ = false := h2.froz (ll _ _ HT.out)
      have c3 : w2.cell? ⟨p, 0, none⟩ = some (.int .i64 most) := by rw [h2.cell (ll _ _ HP.out)]; rfl
      have b0 : w2.cell? ⟨w.heap.size, 0, none⟩ = some (.int .i64 f0) := by rw [h2.cell hbox]; rfl
      have b1 : w2.cell? ⟨w.heap.size, 1, none⟩ = some (.int .i64 f1) := by rw [h2.cell hbox]; rfl
      have b2 : w2.cell? ⟨w.heap.size, 2, none⟩ = some (.int .i64 fs) := by rw [h2.cell hbox]; rfl
      obtain ⟨v0, hv0, hv1⟩ := HB.out
      have q0 : p ≠ tb := fun e => by have h1 := HP.out; have h2 := HT.out; unfold BoxI at h1; unfold BoxT at h2; rw [e, h2] at h1; simp at h1
      have q1 : w.heap.size ≠ tb := fun e => by have h2 := ll _ _ HT.out; rw [← e, hbox] at h2; simp at h2
      have q2 : rb ≠ tb := fun e => by have h2 := HT.out; unfold BoxT at h2; rw [← e, hv0] at h2; simp at h2
      have q3 : h.ob ≠ tb := fun e => by have h2 := HT.out; unfold BoxT at h2; rw [← e, HOB.out] at h2; simp [hndObj] at h2
      have q4 : h.fb ≠ tb := fun e => by have h2 := HT.out; unfold BoxT at h2; rw [← e, HFILE.out] at h2; simp [fileObj] at h2
      have q5 : h.ob ≠ rb := fun e => by have h2 := hv0; rw [← e, HOB.out] at h2; simp [hndObj] at h2
      have HBOX := Lib.hid hbox
      have LL := Lib.hid ll
      have H2 := Lib.hid h2
      have N2 := Lib.hid n2
      have HV0 := Lib.hid hv0
      have HV1 := Lib.hid hv1
      have Q2 := Lib.hid q2
      have Q3 := Lib.hid q3
      have Q4 := Lib.hid q4
      have Q5 := Lib.hid q5
      clear hv l2 h2 n2 hbox ll hv0 hv1 q2 q3 q4 q5
      generalize w.heap.size = xb at *
      go_wp2_with fail
      go_quiet (fail)
      go_wp2_with fail
      have ntb : ¬ FP sb g tb := HR.out.notB HT.out (by decide)
      have nrb : ¬ FP sb g rb := HR.out.notB HV0.out (by decide)
      have hs2 := (H2.out.drewN nq).storeTo (off := 0) (c' := #[.bool true]) (LL.out _ _ HT.out) (.bool true) (by simp)
      have hobT : (m2.set tb (.cells #[.bool true] 4 (0, 0))) h.ob = some (hndObj h) := by rw [Mem.set_ne _ _ Q3.out]; exact LL.out _ _ HOB.out
      have hfbT : (m2.set tb (.cells #[.bool true] 4 (0, 0))) h.fb = some (fileObj e) := by rw [Mem.set_ne _ _ Q4.out]; exact LL.out _ _ HFILE.out
      have rT := (HR.out.le LL.out).other (.cells #[.bool true] 4 (0, 0)) ntb
      have rowT : Row (m2.set tb (.cells #[.bool true] 4 (0, 0))) e.bv 5 1 e.bs.length (e.bs.map byteV) := (HROW.out.le LL.out).set_other _ (fun e => by
        obtain ⟨cur, fz, hc⟩ := HROW.out.ty e
        have := HT.out
        unfold BoxT at this
        rw [hc] at this; simp at this)
      have vT : (m2.set tb (.cells #[.bool true] 4 (0, 0))) rb = some (.cells #[v0] 26 (0, 0)) := by rw [Mem.set_ne _ _ Q2.out]; exact LL.out _ _ HV0.out
      have frT : Fr m (m2.set tb (.cells #[.bool true] 4 (0, 0))) (fun b => FP sb g b ∨ (b = rb ∨ b = tb)) (fun b => FP sb g b ∨ (b = rb ∨ b = tb)) :=
        (Fr.of_le LL.out _).trans (Fr.set _ (.inl (.inr (.inr rfl))))
      refine (left_any h.ob h.fb h.pos h.mode most f0 f1 fs e.bv e.bs _ _ hs2 hobT hfbT rowT hsz hpos).mono ?_
      rintro e1 w3 ⟨y, m3, rfl, l3, h3, n3, hy, hty⟩
      have hle : (leftL e.bs h.pos most fs).length ≤ 1000000 := by have := HLL.out; omega
      have HY := Lib.hid (hy.le l3)
      have HTY := Lib.hid (hty.le l3)
      have HLE := Lib.hid hle
      have H3 := Lib.hid h3
      have N3 := Lib.hid (((((Env.refl w).alloc _).trans N2.out).drewN nq).setCell ⟨tb, 0, none⟩ (.bool true) |>.trans n3)
      have R3 := Lib.hid (rT.le l3)
      have F3 := Lib.hid (frT.le l3)
      have OB3 := Lib.hid (l3 _ _ hobT)
      have V3 := Lib.hid (l3 _ _ vT)
      have T3 := Lib.hid (l3 _ _ (Mem.set_same m2 tb (.cells #[.bool true] 4 (0, 0))))
      have D3 : Hid (∀ b, m3 b = none → m0 b = none) := fun b hb => H0.out b (Mem.none_le LL.out (Mem.none_set (Mem.none_le l3 hb)))
      have d0 : w3.cell? ⟨rb, 0, none⟩ = some v0 := by rw [h3.cell (l3 _ _ vT)]; rfl
      have d1 : w3.frozen? ⟨rb, 0, none⟩ = false := h3.froz (l3 _ _ vT)
      clear l3 h3 n3 hy hty hle hs2 hobT hfbT rT rowT vT frT c0 c1 c2 c3 b0 b1 b2 t0 t1 q0 q1
      have hfin : lineF k most g.abs h.abs (f0, f1, fs) = (if 0 ≤ Lib.indexByte (leftL e.bs h.pos most fs) 10 then
          (g.abs.setH k (some (h.name, h.mode, h.pos + 1 + (Lib.indexByte (leftL e.bs h.pos most fs) 10).toNat)), 0, ((leftL e.bs h.pos most fs).take (Lib.indexByte (leftL e.bs h.pos most fs) 10).toNat, true))
          else (g.abs.setH k (some (h.name, h.mode, h.pos + (leftL e.bs h.pos most fs).length)), 0, (leftL e.bs h.pos most fs, true))) := by
        show (if h.mode = 2 then _ else if (g.abs.bytes h.name).length ≤ h.pos then _ else _) = _
        rw [if_neg HM.out, HBS.out, if_neg HEND.out, HRL.out]; rfl
      obtain ⟨ix1, ix2⟩ := indexByte_lt (leftL e.bs h.pos most fs) 10
      obtain ⟨ys, hys⟩ : ∃ ys, leftL e.bs h.pos most fs = ys := ⟨_, rfl⟩
      have LEN : Hid (ys.length ≤ e.bs.length - h.pos) := by rw [← hys]; exact HLL
      have LEN2 : Hid (ys.length ≤ 1000000) := by rw [← hys]; exact HLE
      rw [hys] at hfin ix1 ix2 HY
      have HFIN := Lib.hid hfin
      clear hfin hys HLE
      obtain ⟨ix, hix⟩ : ∃ ix, Lib.indexByte ys 10 = ix := ⟨_, rfl⟩
      rw [hix] at ix1 ix2 HFIN
      have HIX := Lib.hid hix
      clear hix
      obtain ⟨ya, yc, hyv⟩ : ∃ ya yc, y = .slice ya ys.length yc := by
        rcases HY.out with ⟨h1, h2⟩ | ⟨g', o', cap', h1, _⟩
        · exact ⟨none, 0, by rw [h1, h2]; rfl⟩
        · exact ⟨_, _, h1⟩
      subst hyv
      go_wp2_with fail
      have hs4 := H3.out.storeTo (off := 0) (c' := #[.slice ya ys.length yc]) V3.out (.slice ya ys.length yc) (by simp)
      have wn4 := HY.out.set HTY.out V3.out (by decide) (.cells #[.slice ya ys.length yc] 26 (0, 0))
      have IXB := indexB_any (.slice ya ys.length yc) ys _ _ hs4 wn4
      rw [HIX.out] at IXB
      refine IXB.mono ?_
      rintro e1 w5 ⟨rfl, hw5⟩
      rw [← hw5] at hs4
      have n5 : Env w w5 := by rw [hw5]; exact N3.out.setCell _ _
      have hob5 : (m3.set rb (.cells #[.slice ya ys.length yc] 26 (0, 0))) h.ob = some (hndObj h) := by rw [Mem.set_ne _ _ Q5.out]; exact OB3.out
      have r5 := R3.out.other (.cells #[.slice ya ys.length yc] 26 (0, 0)) nrb
      have t5 : (m3.set rb (.cells #[.slice ya ys.length yc] 26 (0, 0))) tb = some (.cells #[.bool true] 4 (0, 0)) := by rw [Mem.set_ne _ _ (Ne.symm Q2.out)]; exact T3.out
      have f5 : Fr m (m3.set rb (.cells #[.slice ya ys.length yc] 26 (0, 0))) (fun b => FP sb g b ∨ (b = rb ∨ b = tb)) (fun b => FP sb g b ∨ (b = rb ∨ b = tb)) := F3.out.trans (Fr.set _ (.inl (.inr (.inl rfl))))
      have e0 : w5.cell? ⟨h.ob, 2, none⟩ = some (.int .i64 h.pos) := by rw [hs4.cell hob5]; rfl
      have e1 : w5.frozen? ⟨h.ob, 2, none⟩ = false := hs4.froz hob5
      have e2 : w5.cell? ⟨rb, 0, none⟩ = some (.slice ya ys.length yc) := by rw [hs4.cell (Mem.set_same _ _ _)]; rfl
      have e3 : w5.frozen? ⟨rb, 0, none⟩ = false := hs4.froz (Mem.set_same _ _ _)
      have ty5 := HTY.out.set V3.out (by decide) (.cells #[.slice ya ys.length yc] 26 (0, 0))
      have d5 : ∀ b, (m3.set rb (.cells #[.slice ya ys.length yc] 26 (0, 0))) b = none → m0 b = none := fun b hb => D3.out b (Mem.none_set hb)
      have H5 := Lib.hid hs4
      have N5 := Lib.hid n5
      have OB5 := Lib.hid hob5
      have R5 := Lib.hid r5
      have T5 := Lib.hid t5
      have F5 := Lib.hid f5
      have W5 := Lib.hid wn4
      have TY5 := Lib.hid ty5
      have D5 := Lib.hid d5
      clear hw5 hs4 wn4 IXB n5 hob5 r5 t5 f5 ty5 d5 d0 d1 ntb
      have B5 : Hid ((m3.set rb (.cells #[.slice ya ys.length yc] 26 (0, 0))) rb = some (.cells #[.slice ya ys.length yc] 26 (0, 0))) := Mem.set_same _ _ _
      generalize m3.set rb (.cells #[.slice ya ys.length yc] 26 (0, 0)) = m5 at *
      by_cases hneg : ix < 0
      · have HNEG := Lib.hid hneg
        have HS := H5
        have NS := N5
        have ZB := B5
        have ZO := OB5
        have ZW := W5
        have ZL := LEN2
        have ZR := R5
        have ZK := HK
        have ZF := F5
        have ZD := D5
        have ZT := T5
        go_wp2_with fail
        have i0 := HS.out.cell (o := 0) ZB.out
        refine (cloneB_any _ (ys) _ _ HS.out ZW.out ZL.out).mono ?_
        rintro e1 w8 ⟨c, m8, rfl, l8, h8, n8, hc, hcf⟩
        obtain ⟨va, vc, rfl, hvc⟩ := hc.lenV
        have i1 := h8.froz (o := 0) (l8 _ _ ZB.out)
        have i2 := h8.cell (o := 0) (l8 _ _ ZB.out)
        have i3 : ∃ u, w8.cell? ⟨rb, 0, none⟩ = some u := ⟨_, i2⟩
        obtain ⟨u8, i4⟩ := i3
        have L8 := Lib.hid l8
        have H8 := Lib.hid h8
        have N8 := Lib.hid (NS.out.trans n8)
        have HC := Lib.hid hc
        have HCF := Lib.hid hcf
        clear l8 h8 n8 hc hcf i0 i2
        go_wp2_with fail
        refine wp_opaque w _ (H8.out.storeTo (off := 0) (c' := #[.slice va (ys).length vc]) (L8.out _ _ ZB.out) _ (by simp)) (N8.out.setCell _ _) ?_
        intro w9 h9 n9
        have ho9 : (m8.set rb (.cells #[.slice va (ys).length vc] 26 (0, 0))) h.ob = some (hndObj h) := by rw [Mem.set_ne _ _ Q5.out]; exact L8.out _ _ ZO.out
        have j0 : w9.cell? ⟨h.ob, 2, none⟩ = some (.int .i64 ((h.pos : Nat) : Int)) := by rw [h9.cell ho9]; rfl
        have j1 : w9.frozen? ⟨h.ob, 2, none⟩ = false := h9.froz ho9
        have j2 : w9.cell? ⟨rb, 0, none⟩ = some (.slice va (ys).length vc) := by rw [h9.cell (Mem.set_same _ _ _)]; rfl
        have wk : IntKind.i64.wrap (((h.pos : Nat) : Int) + (((ys).length : Nat) : Int)) = ((h.pos : Nat) : Int) + (((ys).length : Nat) : Int) := by
          have := ZL.out
          simp only [IntKind.wrap, IntKind.signed, IntKind.bits]
          simp; omega
        have H9 := Lib.hid h9
        have N9 := Lib.hid n9
        have HO9 := Lib.hid ho9
        clear h9 n9 ho9 i1 i4 hvc
        obtain ⟨qz, hqz⟩ : ∃ qz : Int, ((h.pos : Nat) : Int) = qz := ⟨_, rfl⟩
        obtain ⟨lz, hlz⟩ : ∃ lz : Nat, (ys).length = lz := ⟨_, rfl⟩
        rw [hqz] at j0 wk
        rw [hlz] at j2 wk
        have HQZ := Lib.hid hqz
        have HLZ := Lib.hid hlz
        clear hqz
        rw [hlz]
        clear hlz
        refine wp_region_K 9 (fun w' => w'.cell? ⟨h.ob, 2, none⟩ = some (.int .i64 qz) ∧ w'.cell? ⟨rb, 0, none⟩ = some (.slice va lz vc)) (by kernel_rfl) ?_
        have hS : (fun w' : World => w'.cell? ⟨h.ob, 2, none⟩ = some (.int .i64 qz) ∧ w'.cell? ⟨rb, 0, none⟩ = some (.slice va lz vc)) w9.drew := ⟨j0, j2⟩
        refine wpAnyK_take (i := 0) (v := ?_) rfl (by kernel_rfl) (by kernel_rfl) (by kernel_rfl) (by kernel_rfl) (fun _ _ _ h => h) (Or.inl ⟨by rfl, ?_⟩) hS ?_
        rotate_left
        · intro w0 hS0; obtain ⟨q0, q1⟩ := hS0; go_simp; try with_reducible rfl
        simp only [Act.put, List.setIfInBounds_toArray, List.set_cons_zero, List.set_cons_succ, List.getElem_toArray, List.getElem_cons_succ, List.getElem_cons_zero]
        refine wpAnyK_take (i := 1) (v := ?_) rfl (by kernel_rfl) (by kernel_rfl) (by kernel_rfl) (by kernel_rfl) (fun _ _ _ h => h) (Or.inl ⟨by rfl, ?_⟩) hS ?_
        rotate_left
        · intro w0 hS0; obtain ⟨q0, q1⟩ := hS0; go_simp; try with_reducible rfl
        simp only [Act.put, List.setIfInBounds_toArray, List.set_cons_zero, List.set_cons_succ, List.getElem_toArray, List.getElem_cons_succ, List.getElem_cons_zero]
        refine wpAnyK_take (i := 2) (v := ?_) rfl (by kernel_rfl) (by kernel_rfl) (by kernel_rfl) (by kernel_rfl) (fun _ _ _ h => h) (Or.inl ⟨by rfl, ?_⟩) hS ?_
        rotate_left
        · intro w0 hS0; obtain ⟨q0, q1⟩ := hS0; go_simp; try with_reducible rfl
        simp only [Act.put, List.setIfInBounds_toArray, List.set_cons_zero, List.set_cons_succ, List.getElem_toArray, List.getElem_cons_succ, List.getElem_cons_zero]
        refine wpAnyK_take (i := 3) (v := ?_) rfl (by kernel_rfl) (by kernel_rfl) (by kernel_rfl) (by kernel_rfl) (fun _ _ _ h => h) (Or.inl ⟨by rfl, ?_⟩) hS ?_
        rotate_left
        · intro w0 hS0; obtain ⟨q0, q1⟩ := hS0; go_simp; try with_reducible rfl
        simp only [Act.put, List.setIfInBounds_toArray, List.set_cons_zero, List.set_cons_succ, List.getElem_toArray, List.getElem_cons_succ, List.getElem_cons_zero]
        refine wpAnyK_take (i := 4) (v := ?_) rfl (by kernel_rfl) (by kernel_rfl) (by kernel_rfl) (by kernel_rfl) (fun _ _ _ h => h) (Or.inl ⟨by rfl, ?_⟩) hS ?_
        rotate_left
        · intro w0 hS0; obtain ⟨q0, q1⟩ := hS0; go_simp; try with_reducible rfl
        simp only [Act.put, List.setIfInBounds_toArray, List.set_cons_zero, List.set_cons_succ, List.getElem_toArray, List.getElem_cons_succ, List.getElem_cons_zero]
        refine wpAnyK_take (i := 5) (v := ?_) rfl (by kernel_rfl) (by kernel_rfl) (by kernel_rfl) (by kernel_rfl) (fun _ _ _ h => h) (Or.inl ⟨by rfl, ?_⟩) hS ?_
        rotate_left
        · intro w0 hS0; obtain ⟨q0, q1⟩ := hS0; go_simp; try with_reducible rfl
        simp only [Act.put, List.setIfInBounds_toArray, List.set_cons_zero, List.set_cons_succ, List.getElem_toArray, List.getElem_cons_succ, List.getElem_cons_zero]
        refine wpAnyK_take (i := 6) (v := ?_) rfl (by kernel_rfl) (by kernel_rfl) (by kernel_rfl) (by kernel_rfl) (fun _ _ _ h => h) (Or.inl ⟨by rfl, ?_⟩) hS ?_
        rotate_left
        · intro w0 hS0; obtain ⟨q0, q1⟩ := hS0; go_simp; try with_reducible rfl
        simp only [Act.put, List.setIfInBounds_toArray, List.set_cons_zero, List.set_cons_succ, List.getElem_toArray, List.getElem_cons_succ, List.getElem_cons_zero]
        refine wpAnyK_take (i := 7) (v := ?_) rfl (by kernel_rfl) (by kernel_rfl) (by kernel_rfl) (by kernel_rfl) (fun _ _ _ h => h) (Or.inl ⟨by rfl, ?_⟩) hS ?_
        rotate_left
        · intro w0 hS0; obtain ⟨q0, q1⟩ := hS0; go_simp; try with_reducible rfl
        simp only [Act.put, List.setIfInBounds_toArray, List.set_cons_zero, List.set_cons_succ, List.getElem_toArray, List.getElem_cons_succ, List.getElem_cons_zero]
        refine wpAnyK_take (i := 8) (v := ?_) rfl (by kernel_rfl) (by kernel_rfl) (by kernel_rfl) (by kernel_rfl) (fun _ _ _ h => h) (Or.inl ⟨by rfl, ?_⟩) hS ?_
        rotate_left
        · intro w0 hS0; obtain ⟨q0, q1⟩ := hS0; go_simp; try with_reducible rfl
        simp only [Act.put, List.setIfInBounds_toArray, List.set_cons_zero, List.set_cons_succ, List.getElem_toArray, List.getElem_cons_succ, List.getElem_cons_zero]
        refine wpAnyK_one (i := 9) rfl (by kernel_rfl) rfl ?_
        go_simp
        refine wpAnyK_done (by kernel_rfl) ?_ _
        go_wp2_with fail
        go_ret
        rw [HFIN.out]
        have hq := HQZ.out
        have hl := HLZ.out
        subst hq
        subst hl
        have hpl : h.pos + (ys).length ≤ 262144 := by
          have := LEN.out
          have := HEND.out
          omega
        have hst := H9.out.drew.storeTo (off := 2) (c' := #[.pointer (some ⟨h.fb, 0, none⟩), .int .i64 h.mode, .int .i64 (((h.pos : Nat) : Int) + (((ys).length : Nat) : Int))]) HO9.out (.int .i64 (((h.pos : Nat) : Int) + (((ys).length : Nat) : Int))) (by simp)
        have hobj : (.cells #[.pointer (some ⟨h.fb, 0, none⟩), .int .i64 h.mode, .int .i64 (((h.pos : Nat) : Int) + (((ys).length : Nat) : Int))] 88 (0, 0) : Obj) = hndObj { h with mode := h.mode, pos := h.pos + (ys).length } := by
          unfold hndObj; simp only [Int.natCast_add]
        rw [hobj] at hst
        have nrb2 := ZR.out.notB ZB.out (by decide)
        have r9 := (ZR.out.le L8.out).other (.cells #[.slice va (ys).length vc] 26 (0, 0)) nrb2
        rw [if_neg (show ¬ 0 ≤ ix by have := HNEG.out; omega)]
        refine ⟨.nilIface, 0, _, rfl, hst, N9.out.drew.setCell _ _, .inl ⟨rfl, rfl⟩, _, r9.setH ZK.out h.mode _ hpl, ?_, ?_, rfl, ?_, ?_⟩
        · exact ((ZF.out.le L8.out).trans (Fr.set _ (.inl (.inr (.inl rfl))))).trans ((SRep.setH_fr (h := h) ZK.out h.mode (h.pos + (ys).length) _).more _)
        · rw [abs_setH _ _ _ ((List.getElem?_eq_some_iff.1 ZK.out).1)]
          rfl
        · refine ⟨_, by rw [Mem.set_ne _ _ (Ne.symm Q5.out)]; exact Mem.set_same _ _ _, ?_⟩
          have o1 : OutB m0 (.slice va (ys).length vc) m8 (ys) := ⟨HC.out, fun b hb => ZD.out b (HCF.out b hb)⟩
          exact (o1.set_other _ (L8.out _ _ ZB.out) (by simp)).set_other _ HO9.out (by simp [hndObj])
        · show ((m8.set rb _).set h.ob _) tb = _
          rw [Mem.set_ne _ _ (Ne.symm Q3.out), Mem.set_ne _ _ (Ne.symm Q2.out)]
          exact L8.out _ _ ZT.out
      · obtain ⟨n, rfl⟩ : ∃ n : Nat, ix = (n : Int) := ⟨ix.toNat, by omega⟩
        have hn : n < ys.length := by omega
        obtain ⟨gb, go, hya⟩ : ∃ gb go, ya = some ⟨gb, go, none⟩ := by
          rcases W5.out with ⟨h1, h2⟩ | ⟨g', o', cap', h1, _⟩
          · rw [h2] at hn; simp at hn
          · simp only [Value.slice.injEq] at h1; exact ⟨_, _, h1.1⟩
        subst hya
        have hcap : ys.length ≤ yc := by
          rcases W5.out with ⟨h1, h2⟩ | ⟨g', o', cap', h1, h2, _⟩
          · rw [h2] at hn; simp at hn
          · simp only [Value.slice.injEq] at h1; omega
        have q5 := Q5.out
        have hk1 : h.pos + 1 ≤ 262144 := by
          have := LEN.out
          omega
        have wn6 := cut_wind W5.out rfl n (by omega)
        have ty6 : TypB m5 (.slice (some ⟨gb, go, none⟩) n yc) := fun g2 o2 n2 c2 hv => by
          have hv' : some gb = some g2 := congrArg Value.ownBlk hv
          rw [← Option.some.inj hv']
          exact TY5.out gb go _ _ rfl
        have ob6 : (m5.set rb (.cells #[.slice (some ⟨gb, go, none⟩) n yc] 26 (0, 0))) h.ob = some (hndObj h) := by rw [Mem.set_ne _ _ Q5.out]; exact OB5.out
        have HS : Hid (Has ((w5.setCell ⟨rb, 0, none⟩ (.slice (some ⟨gb, go, none⟩) n yc)).setCell ⟨h.ob, 2, none⟩ (.int .i64 ((h.pos : Int) + 1)))
            ((m5.set rb (.cells #[.slice (some ⟨gb, go, none⟩) n yc] 26 (0, 0))).set h.ob (hndObj { h with mode := h.mode, pos := h.pos + 1 }))) :=
          Lib.hid ((H5.out.storeTo (off := 0) (c' := #[.slice (some ⟨gb, go, none⟩) n yc]) B5.out _ (by simp)).storeTo (off := 2) ob6 (.int .i64 ((h.pos : Int) + 1)) (by simp))
        have NS := Lib.hid ((N5.out.setCell ⟨rb, 0, none⟩ (.slice (some ⟨gb, go, none⟩) n yc)).setCell ⟨h.ob, 2, none⟩ (.int .i64 ((h.pos : Int) + 1)))
        have r6 := (R5.out.other (.cells #[.slice (some ⟨gb, go, none⟩) n yc] 26 (0, 0)) nrb).setH HK.out h.mode (h.pos + 1) hk1
        have f6 := (F5.out.trans (Fr.set (b := rb) (.cells #[.slice (some ⟨gb, go, none⟩) n yc] 26 (0, 0)) (.inl (.inr (.inl rfl))))).trans ((SRep.setH_fr (sb := sb) HK.out h.mode (h.pos + 1) (hndObj { h with mode := h.mode, pos := h.pos + 1 })).both (fun b => b = rb ∨ b = tb))
        have ZB : Hid (((m5.set rb (.cells #[.slice (some ⟨gb, go, none⟩) n yc] 26 (0, 0))).set h.ob (hndObj { h with mode := h.mode, pos := h.pos + 1 })) rb = some (.cells #[.slice (some ⟨gb, go, none⟩) n yc] 26 (0, 0))) :=
          Lib.hid (by rw [Mem.set_ne _ _ (Ne.symm Q5.out), Mem.set_same])
        have ZO : Hid (((m5.set rb (.cells #[.slice (some ⟨gb, go, none⟩) n yc] 26 (0, 0))).set h.ob (hndObj { h with mode := h.mode, pos := h.pos + 1 })) h.ob = some (hndObj { h with mode := h.mode, pos := h.pos + 1 })) := Lib.hid (Mem.set_same _ _ _)
        have ZW := Lib.hid ((wn6.set ty6 B5.out (by decide) (.cells #[.slice (some ⟨gb, go, none⟩) n yc] 26 (0, 0))).set (ty6.set B5.out (by decide) _) ob6 (by decide) (hndObj { h with mode := h.mode, pos := h.pos + 1 }))
        obtain ⟨zs, hzs⟩ : ∃ zs, ys.take n = zs := ⟨_, rfl⟩
        have hzl : zs.length = n := by rw [← hzs, List.length_take]; omega
        rw [hzs] at ZW
        have ZL : Hid (zs.length ≤ 1000000) := Lib.hid (by have := LEN2.out; omega)
        have HZS := Lib.hid hzs
        have HZL := Lib.hid hzl
        have ZR := Lib.hid r6
        have hlt := (List.getElem?_eq_some_iff.1 HK.out).1
        have ZK : Hid (({ g with O := g.O.set k (some { h with mode := h.mode, pos := h.pos + 1 }) } : G).O[k]? = some (some { h with mode := h.mode, pos := h.pos + 1 })) := Lib.hid (by
          show (g.O.set k _)[k]? = _
          rw [List.getElem?_set, if_pos rfl, if_pos hlt])
        have ZF := Lib.hid f6
        have ZD : Hid (∀ b, ((m5.set rb (.cells #[.slice (some ⟨gb, go, none⟩) n yc] 26 (0, 0))).set h.ob (hndObj { h with mode := h.mode, pos := h.pos + 1 })) b = none → m0 b = none) := Lib.hid (fun b hb => D5.out b (Mem.none_set (Mem.none_set hb)))
        have ZT : Hid (((m5.set rb (.cells #[.slice (some ⟨gb, go, none⟩) n yc] 26 (0, 0))).set h.ob (hndObj { h with mode := h.mode, pos := h.pos + 1 })) tb = some (.cells #[.bool true] 4 (0, 0))) :=
          Lib.hid (by rw [Mem.set_ne _ _ (Ne.symm Q3.out), Mem.set_ne _ _ (Ne.symm Q2.out)]; exact T5.out)
        have HN := Lib.hid hn
        clear wn6 ty6 ob6 r6 f6 hlt hn hzs hzl
        go_wp2_with fail
        have i0 := HS.out.cell (o := 0) ZB.out
        refine (cloneB_any _ (zs) _ _ HS.out ZW.out ZL.out).mono ?_
        rintro e1 w8 ⟨c, m8, rfl, l8, h8, n8, hc, hcf⟩
        obtain ⟨va, vc, rfl, hvc⟩ := hc.lenV
        have i1 := h8.froz (o := 0) (l8 _ _ ZB.out)
        have i2 := h8.cell (o := 0) (l8 _ _ ZB.out)
        have i3 : ∃ u, w8.cell? ⟨rb, 0, none⟩ = some u := ⟨_, i2⟩
        obtain ⟨u8, i4⟩ := i3
        have L8 := Lib.hid l8
        have H8 := Lib.hid h8
        have N8 := Lib.hid (NS.out.trans n8)
        have HC := Lib.hid hc
        have HCF := Lib.hid hcf
        clear l8 h8 n8 hc hcf i0 i2
        go_wp2_with fail
        refine wp_opaque w _ (H8.out.storeTo (off := 0) (c' := #[.slice va (zs).length vc]) (L8.out _ _ ZB.out) _ (by simp)) (N8.out.setCell _ _) ?_
        intro w9 h9 n9
        have ho9 : (m8.set rb (.cells #[.slice va (zs).length vc] 26 (0, 0))) h.ob = some (hndObj { h with mode := h.mode, pos := h.pos + 1 }) := by rw [Mem.set_ne _ _ Q5.out]; exact L8.out _ _ ZO.out
        have j0 : w9.cell? ⟨h.ob, 2, none⟩ = some (.int .i64 (((h.pos + 1) : Nat) : Int)) := by rw [h9.cell ho9]; rfl
        have j1 : w9.frozen? ⟨h.ob, 2, none⟩ = false := h9.froz ho9
        have j2 : w9.cell? ⟨rb, 0, none⟩ = some (.slice va (zs).length vc) := by rw [h9.cell (Mem.set_same _ _ _)]; rfl
        have wk : IntKind.i64.wrap ((((h.pos + 1) : Nat) : Int) + (((zs).length : Nat) : Int)) = (((h.pos + 1) : Nat) : Int) + (((zs).length : Nat) : Int) := by
          have := ZL.out
          simp only [IntKind.wrap, IntKind.signed, IntKind.bits]
          simp; omega
        have H9 := Lib.hid h9
        have N9 := Lib.hid n9
        have HO9 := Lib.hid ho9
        clear h9 n9 ho9 i1 i4 hvc
        obtain ⟨qz, hqz⟩ : ∃ qz : Int, (((h.pos + 1) : Nat) : Int) = qz := ⟨_, rfl⟩
        obtain ⟨lz, hlz⟩ : ∃ lz : Nat, (zs).length = lz := ⟨_, rfl⟩
        rw [hqz] at j0 wk
        rw [hlz] at j2 wk
        have HQZ := Lib.hid hqz
        have HLZ := Lib.hid hlz
        clear hqz
        rw [hlz]
        clear hlz
        refine wp_region_K 9 (fun w' => w'.cell? ⟨h.ob, 2, none⟩ = some (.int .i64 qz) ∧ w'.cell? ⟨rb, 0, none⟩ = some (.slice va lz vc)) (by kernel_rfl) ?_
        have hS : (fun w' : World => w'.cell? ⟨h.ob, 2, none⟩ = some (.int .i64 qz) ∧ w'.cell? ⟨rb, 0, none⟩ = some (.slice va lz vc)) w9.drew := ⟨j0, j2⟩
        refine wpAnyK_take (i := 0) (v := ?_) rfl (by kernel_rfl) (by kernel_rfl) (by kernel_rfl) (by kernel_rfl) (fun _ _ _ h => h) (Or.inl ⟨by rfl, ?_⟩) hS ?_
        rotate_left
        · intro w0 hS0; obtain ⟨q0, q1⟩ := hS0; go_simp; try with_reducible rfl
        simp only [Act.put, List.setIfInBounds_toArray, List.set_cons_zero, List.set_cons_succ, List.getElem_toArray, List.getElem_cons_succ, List.getElem_cons_zero]
        refine wpAnyK_take (i := 1) (v := ?_) rfl (by kernel_rfl) (by kernel_rfl) (by kernel_rfl) (by kernel_rfl) (fun _ _ _ h => h) (Or.inl ⟨by rfl, ?_⟩) hS ?_
        rotate_left
        · intro w0 hS0; obtain ⟨q0, q1⟩ := hS0; go_simp; try with_reducible rfl
        simp only [Act.put, List.setIfInBounds_toArray, List.set_cons_zero, List.set_cons_succ, List.getElem_toArray, List.getElem_cons_succ, List.getElem_cons_zero]
        refine wpAnyK_take (i := 2) (v := ?_) rfl (by kernel_rfl) (by kernel_rfl) (by kernel_rfl) (by kernel_rfl) (fun _ _ _ h => h) (Or.inl ⟨by rfl, ?_⟩) hS ?_
        rotate_left
        · intro w0 hS0; obtain ⟨q0, q1⟩ := hS0; go_simp; try with_reducible rfl
        simp only [Act.put, List.setIfInBounds_toArray, List.set_cons_zero, List.set_cons_succ, List.getElem_toArray, List.getElem_cons_succ, List.getElem_cons_zero]
        refine wpAnyK_take (i := 3) (v := ?_) rfl (by kernel_rfl) (by kernel_rfl) (by kernel_rfl) (by kernel_rfl) (fun _ _ _ h => h) (Or.inl ⟨by rfl, ?_⟩) hS ?_
        rotate_left
        · intro w0 hS0; obtain ⟨q0, q1⟩ := hS0; go_simp; try with_reducible rfl
        simp only [Act.put, List.setIfInBounds_toArray, List.set_cons_zero, List.set_cons_succ, List.getElem_toArray, List.getElem_cons_succ, List.getElem_cons_zero]
        refine wpAnyK_take (i := 4) (v := ?_) rfl (by kernel_rfl) (by kernel_rfl) (by kernel_rfl) (by kernel_rfl) (fun _ _ _ h => h) (Or.inl ⟨by rfl, ?_⟩) hS ?_
        rotate_left
        · intro w0 hS0; obtain ⟨q0, q1⟩ := hS0; go_simp; try with_reducible rfl
        simp only [Act.put, List.setIfInBounds_toArray, List.set_cons_zero, List.set_cons_succ, List.getElem_toArray, List.getElem_cons_succ, List.getElem_cons_zero]
        refine wpAnyK_take (i := 5) (v := ?_) rfl (by kernel_rfl) (by kernel_rfl) (by kernel_rfl) (by kernel_rfl) (fun _ _ _ h => h) (Or.inl ⟨by rfl, ?_⟩) hS ?_
        rotate_left
        · intro w0 hS0; obtain ⟨q0, q1⟩ := hS0; go_simp; try with_reducible rfl
        simp only [Act.put, List.setIfInBounds_toArray, List.set_cons_zero, List.set_cons_succ, List.getElem_toArray, List.getElem_cons_succ, List.getElem_cons_zero]
        refine wpAnyK_take (i := 6) (v := ?_) rfl (by kernel_rfl) (by kernel_rfl) (by kernel_rfl) (by kernel_rfl) (fun _ _ _ h => h) (Or.inl ⟨by rfl, ?_⟩) hS ?_
        rotate_left
        · intro w0 hS0; obtain ⟨q0, q1⟩ := hS0; go_simp; try with_reducible rfl
        simp only [Act.put, List.setIfInBounds_toArray, List.set_cons_zero, List.set_cons_succ, List.getElem_toArray, List.getElem_cons_succ, List.getElem_cons_zero]
        refine wpAnyK_take (i := 7) (v := ?_) rfl (by kernel_rfl) (by kernel_rfl) (by kernel_rfl) (by kernel_rfl) (fun _ _ _ h => h) (Or.inl ⟨by rfl, ?_⟩) hS ?_
        rotate_left
        · intro w0 hS0; obtain ⟨q0, q1⟩ := hS0; go_simp; try with_reducible rfl
        simp only [Act.put, List.setIfInBounds_toArray, List.set_cons_zero, List.set_cons_succ, List.getElem_toArray, List.getElem_cons_succ, List.getElem_cons_zero]
        refine wpAnyK_take (i := 8) (v := ?_) rfl (by kernel_rfl) (by kernel_rfl) (by kernel_rfl) (by kernel_rfl) (fun _ _ _ h => h) (Or.inl ⟨by rfl, ?_⟩) hS ?_
        rotate_left
        · intro w0 hS0; obtain ⟨q0, q1⟩ := hS0; go_simp; try with_reducible rfl
        simp only [Act.put, List.setIfInBounds_toArray, List.set_cons_zero, List.set_cons_succ, List.getElem_toArray, List.getElem_cons_succ, List.getElem_cons_zero]
        refine wpAnyK_one (i := 9) rfl (by kernel_rfl) rfl ?_
        go_simp
        refine wpAnyK_done (by kernel_rfl) ?_ _
        go_wp2_with fail
        go_ret
        rw [HFIN.out]
        have hq := HQZ.out
        have hl := HLZ.out
        subst hq
        subst hl
        have hpl : (h.pos + 1) + (zs).length ≤ 262144 := by
          have := LEN.out
          have := HEND.out
          have := HN.out
          have := HZL.out
          omega
        have hst := H9.out.drew.storeTo (off := 2) (c' := #[.pointer (some ⟨h.fb, 0, none⟩), .int .i64 h.mode, .int .i64 ((((h.pos + 1) : Nat) : Int) + (((zs).length : Nat) : Int))]) HO9.out (.int .i64 ((((h.pos + 1) : Nat) : Int) + (((zs).length : Nat) : Int))) (by simp)
        have hobj : (.cells #[.pointer (some ⟨h.fb, 0, none⟩), .int .i64 h.mode, .int .i64 ((((h.pos + 1) : Nat) : Int) + (((zs).length : Nat) : Int))] 88 (0, 0) : Obj) = hndObj { { h with mode := h.mode, pos := h.pos + 1 } with mode := h.mode, pos := (h.pos + 1) + (zs).length } := by
          unfold hndObj; simp only [Int.natCast_add]
        rw [hobj] at hst
        have nrb2 := ZR.out.notB ZB.out (by decide)
        have r9 := (ZR.out.le L8.out).other (.cells #[.slice va (zs).length vc] 26 (0, 0)) nrb2
        rw [if_pos (show (0 : Int) ≤ (n : Int) by omega)]
        have hln : ((n : Int)).toNat = n := by omega
        rw [hln, HZS.out]
        refine ⟨.nilIface, 0, _, rfl, hst, N9.out.drew.setCell _ _, .inl ⟨rfl, rfl⟩, _, r9.setH ZK.out h.mode _ hpl, ?_, ?_, rfl, ?_, ?_⟩
        · exact ((ZF.out.le L8.out).trans (Fr.set _ (.inl (.inr (.inl rfl))))).trans ((SRep.setH_fr (h := { h with mode := h.mode, pos := h.pos + 1 }) ZK.out h.mode ((h.pos + 1) + (zs).length) _).more _)
        · rw [abs_setH _ _ _ ((List.getElem?_eq_some_iff.1 ZK.out).1)]
          rw [abs_setH _ _ _ ((List.getElem?_eq_some_iff.1 HK.out).1), A.setH_setH, HZL.out]; rfl
        · refine ⟨_, by rw [Mem.set_ne _ _ (Ne.symm Q5.out)]; exact Mem.set_same _ _ _, ?_⟩
          have o1 : OutB m0 (.slice va (zs).length vc) m8 (zs) := ⟨HC.out, fun b hb => ZD.out b (HCF.out b hb)⟩
          exact (o1.set_other _ (L8.out _ _ ZB.out) (by simp)).set_other _ HO9.out (by simp [hndObj])
        · show ((m8.set rb _).set h.ob _) tb = _
          rw [Mem.set_ne _ _ (Ne.symm Q3.out), Mem.set_ne _ _ (Ne.symm Q2.out)]
          exact L8.out _ _ ZT.out
end Go.Proofs.YtcdmdkgiabfbeaaGreatDoor

/-
  Line, the operation.
-/
namespace Go.Proofs.YtcdmdkgiabfbeaaGreatDoor
open Go.RowKit

/-- What Line answers. -/
def AnsL (w : World) (R : Value → Bool → Mem → Int → Prop) (e : Ending) (w2 : World) : Prop :=
  ∃ v b x m2, e = .returned (.tuple #[v, .bool b, .int .i64 x]) ∧ Has w2 m2 ∧ Env w w2 ∧ R v b m2 x

theorem enters_line1 : Enters 74 := fun _ _ => by kernel_rfl

set_option maxHeartbeats 2000000 in
theorem line_any (sb : Nat) (id most : Int) (g : G) (w : World) (m : Mem) (hm : Has w m) (hr : SRep m sb g) (hG : GlobOk m) (h0 : ¬ FP sb g 0) (hn : g.n ≤ 999999) :
    Calls Tryz.prog 24 #[.pointer (some ⟨sb, 0, none⟩), .int .i64 id, .int .i64 most] w
      (AnsL w fun v b m2 x => OpR m sb g (fun _ => False) (A.withA g.abs id ([], false) (lineF (id - 1).toNat most)) (fun m2 y => OutB m v m2 y.1 ∧ b = y.2) m2 x) := by
  have hfr := hm.fresh (Nat.le_refl w.heap.size)
  have h1 := hm.alloc (.cells #[.int .i64 most] 3)
  have l1 := Mem.le_set m (.cells #[.int .i64 most] 3) hfr
  have hfr2 := h1.fresh (Nat.le_refl _)
  have h2 := h1.alloc (.cells #[.slice none 0 0] 26)
  have l2 := Mem.le_set _ (.cells #[.slice none 0 0] 26) hfr2
  have hfr3 := h2.fresh (Nat.le_refl _)
  have h3 := h2.alloc (.cells #[.bool false] 4)
  have l3 := Mem.le_set _ (.cells #[.bool false] 4) hfr3
  have hsz : (w.alloc (.cells #[.int .i64 most] 3)).heap.size = w.heap.size + 1 := by simp
  have hsz2 : ((w.alloc (.cells #[.int .i64 most] 3)).alloc (.cells #[.slice none 0 0] 26)).heap.size = w.heap.size + 2 := by simp
  rw [hsz] at h2 l2 hfr2 h3 l3 hfr3
  rw [hsz2] at h3 l3 hfr3
  have l13 := Mem.le_trans l1 (Mem.le_trans l2 l3)
  have hE0 : ¬ ((0 : Nat) = w.heap.size + 1 ∨ (0 : Nat) = w.heap.size + 2) := by omega
  have hnsb : sb ≠ w.heap.size := Ne.symm (Mem.ne_of_none hfr hr.store)
  have hnsb2 : sb ≠ w.heap.size + 1 := Ne.symm (Mem.ne_of_none hfr2 (l1 _ _ hr.store))
  have hnsb3 : sb ≠ w.heap.size + 2 := Ne.symm (Mem.ne_of_none hfr3 (l2 _ _ (l1 _ _ hr.store)))
  have hb0 : BoxB m (w.heap.size + 1) ((((m.set w.heap.size (.cells #[.int .i64 most] 3)).set (w.heap.size + 1) (.cells #[.slice none 0 0] 26)).set (w.heap.size + 2) (.cells #[.bool false] 4)).set sb (storeObj g.tick)) [] :=
    ⟨.slice none 0 0, by rw [Mem.set_ne _ _ (Ne.symm hnsb2), Mem.set_ne _ _ (by omega), Mem.set_same], Row.nil _ _ _, fun b hb => by cases hb⟩
  have ht0 : BoxT ((((m.set w.heap.size (.cells #[.int .i64 most] 3)).set (w.heap.size + 1) (.cells #[.slice none 0 0] 26)).set (w.heap.size + 2) (.cells #[.bool false] 4)).set sb (storeObj g.tick)) (w.heap.size + 2) false := by
    unfold BoxT; rw [Mem.set_ne _ _ (Ne.symm hnsb3), Mem.set_same]
  have hW := with_op ([], false) (lineF (id - 1).toNat most) (BoxL m (w.heap.size + 1) (w.heap.size + 2)) (fun b => b = w.heap.size + 1 ∨ b = w.heap.size + 2) sb id g 74 #[.pointer (some ⟨w.heap.size + 2, 0, none⟩), .pointer (some ⟨w.heap.size, 0, none⟩), .pointer (some ⟨w.heap.size + 1, 0, none⟩)] _ _ h3 (hr.le l13) (hG.le l13) h0 hE0 hn enters_line1
    (fun k h hk hid w1 m1 l4 hw1 hr1 => by
      have hbox : BoxI m1 w.heap.size most := l4 _ _ (by
        rw [Mem.set_ne _ _ (Ne.symm hnsb), Mem.set_ne _ _ (by omega), Mem.set_ne _ _ (by omega)]
        exact Mem.set_same _ _ _)
      have hk' : (id - 1).toNat = k := by omega
      rw [hk']
      obtain ⟨v, b1, b2⟩ := hb0
      exact line1_any sb k w.heap.size (w.heap.size + 1) (w.heap.size + 2) g.tick h most g.now w1 m m1 hw1 hr1 hk hbox ⟨v, l4 _ _ b1, b2.le l4⟩ (l4 _ _ ht0) (fun b hb => Mem.none_set (Mem.none_set (Mem.none_set (Mem.none_set (Mem.none_le l4 hb))))))
    (fun m1 l4 => by obtain ⟨v, b1, b2⟩ := hb0; exact ⟨⟨v, l4 _ _ b1, b2.le l4⟩, l4 _ _ ht0⟩)
  have HW := Lib.hid hW
  have L13 := Lib.hid l13
  have HFR2 := Lib.hid hfr2
  have HFR3 := Lib.hid hfr3
  clear hm hr hG h1 h2 h3 l1 l2 l3 l13 hW hfr hfr2 hfr3 hb0 ht0 hnsb hnsb2 hnsb3 hsz hsz2 hE0
  go_enter Tryz.func24, Tryz.ntmps24
  go_wp2_with fail
  refine HW.out.mono ?_
  rintro e w2 ⟨x, m2, rfl, h2, n2, hx⟩
  obtain ⟨g2, x1, x2, x3, x4, x5, x6⟩ := hx
  obtain ⟨v, hv1, hv2⟩ := x5
  obtain ⟨va, vc, rfl, hvc⟩ := hv2.1.lenV
  unfold BoxT at x6
  obtain ⟨y, hy⟩ : ∃ y, (A.withA g.abs id ([], false) (lineF (id - 1).toNat most)).2.2 = y := ⟨_, rfl⟩
  obtain ⟨zs, mo⟩ := y
  rw [hy] at hv1 hv2 x6
  have c0 : w2.cell? ⟨w.heap.size + 1, 0, none⟩ = some (.slice va zs.length vc) := by rw [h2.cell (o := 0) hv1]; rfl
  have f0 : w2.frozen? ⟨w.heap.size + 1, 0, none⟩ = false := h2.froz hv1
  have c1 : w2.cell? ⟨w.heap.size + 2, 0, none⟩ = some (.bool mo) := by rw [h2.cell (o := 0) x6]; rfl
  have f1 : w2.frozen? ⟨w.heap.size + 2, 0, none⟩ = false := h2.froz x6
  have H2 := Lib.hid h2
  have N2 := Lib.hid ((((Env.refl w).alloc (.cells #[.int .i64 most] 3)).alloc (.cells #[.slice none 0 0] 26)).alloc (.cells #[.bool false] 4) |>.trans n2)
  have X1 := Lib.hid x1
  have X2 := Lib.hid x2
  have X3 := Lib.hid x3
  have X4 := Lib.hid x4
  have HV1 := Lib.hid hv1
  have HV2 := Lib.hid hv2
  have X6 := Lib.hid x6
  have HY := Lib.hid hy
  clear h2 n2 x1 x2 x3 x4 x6 hv1 hv2 hy hvc
  generalize w.heap.size = sz at *
  go_wp2_with fail
  go_region
  all_goals
    go_wp2_with fail
    have c2 : w2.cell? ⟨sz + 1 + 1, 0, none⟩ = some (.bool mo) := c1
    refine bodyPost_ret (v := .tuple #[.slice va zs.length vc, .bool mo, .int .i64 x]) (by simp [results, Tryz.results24, go_sem, c0, c2]) rfl ?_
    refine ⟨_, mo, x, m2, rfl, ((H2.out.same (off := 0) HV1.out (by simp)).same (off := 0) X6.out (by simp)).drew, ((N2.out.setCell _ _).setCell _ _).drew, ?_⟩
    have hop : OpR _ sb g (fun b => b = sz + 1 ∨ b = sz + 2) (A.withA g.abs id ([], false) (lineF (id - 1).toNat most)) (fun m2 y => OutB m (.slice va zs.length vc) m2 y.1 ∧ mo = y.2) m2 x := ⟨g2, X1.out, X2.out, X3.out, X4.out, by rw [HY.out]; exact ⟨HV2.out, rfl⟩⟩
    exact hop.ahead L13.out (fun b hb => by
      rcases hb with rfl | rfl
      · exact Mem.none_set HFR2.out
      · exact Mem.none_set (Mem.none_set HFR3.out)) (fun h => h)
end Go.Proofs.YtcdmdkgiabfbeaaGreatDoor

/-
  Write, the operation.
-/
namespace Go.Proofs.YtcdmdkgiabfbeaaGreatDoor
open Go.RowKit

theorem enters_write1 : Enters 40 := fun _ _ => by kernel_rfl

set_option maxHeartbeats 1000000 in
theorem write_any (sb : Nat) (id : Int) (y : Value) (xs : List UInt8) (g : G) (w : World) (m : Mem) (hm : Has w m) (hr : SRep m sb g) (hG : GlobOk m) (h0 : ¬ FP sb g 0) (hn : g.n ≤ 999999)
    (hy : WindZ m y xs) (hna : 0 < xs.length → ∀ b, y.ownBlk = some b → ¬ FP sb g b) (hxl : xs.length ≤ 1000000) :
    Calls Tryz.prog 11 #[.pointer (some ⟨sb, 0, none⟩), .int .i64 id, y] w
      (Ans w (OpR m sb g (fun _ => False) (A.withA g.abs id () (writeF (id - 1).toNat xs)) (fun _ _ => True))) := by
  have hfr := hm.fresh (Nat.le_refl w.heap.size)
  have h1 := hm.alloc (.cells #[y] 26)
  have l1 := Mem.le_set m (.cells #[y] 26) hfr
  have hnsb := Mem.ne_of_none hfr hr.store
  have hW := with_op () (writeF (id - 1).toNat xs) (fun _ _ => True) (fun _ => False) sb id g 40 #[.pointer (some ⟨w.heap.size, 0, none⟩)] _ _ h1 (hr.le l1) (hG.le l1) h0 (fun h => h) hn enters_write1
    (fun k h hk hid w1 m1 l2 hw1 hr1 => by
      have hbox : m1 w.heap.size = some (.cells #[y] 26 (0, 0)) := l2 _ _ (by
        rw [Mem.set_ne _ _ hnsb]
        exact Mem.set_same _ _ _)
      have hk' : (id - 1).toNat = k := by omega
      rw [hk']
      have hy1 : WindZ m1 y xs := hy.keep fun hp b o hb hm => l2 _ _ (by
        rw [Mem.set_ne _ _ (fun e => hna hp b hb (.inl e))]
        exact l1 _ _ hm)
      exact write1_any sb k w.heap.size g.tick h y xs g.now w1 m1 hw1 hr1 hk hbox hy1 hna hxl)
    (fun _ _ => trivial)
  obtain ⟨ya, yc, rfl⟩ := hy.shape
  have HW := Lib.hid hW
  have L1 := Lib.hid l1
  clear hm hr hG h1 l1 hW hfr hy hna hnsb
  go_enter Tryz.func11, Tryz.ntmps11
  go_wp2_with fail
  refine HW.out.mono ?_
  rintro e w2 ⟨x, m2, rfl, h2, n2, hx⟩
  have H2 := Lib.hid h2
  have N2 := Lib.hid n2
  have HX := Lib.hid hx
  clear h2 n2 hx
  go_wp2_with fail
  go_ret
  exact ⟨x, m2, rfl, H2.out, ((Env.refl w).alloc _).trans N2.out, HX.out.ahead L1.out (fun _ h => h.elim) (fun _ => trivial)⟩
end Go.Proofs.YtcdmdkgiabfbeaaGreatDoor

/-
  A store that was made since: what was known ahead of it stays, whatever is done to it. And a string out of bytes.
-/
namespace Go.Proofs.YtcdmdkgiabfbeaaGreatDoor
open Go.RowKit

structure Own (m : Mem) (sb : Nat) (g : G) (mc : Mem) : Prop where
  le : m.le mc
  rep : SRep mc sb g
  new : ∀ b, FP sb g b → m b = none

theorem Own.grow {m mc mc' : Mem} {sb : Nat} {g : G} (h : Own m sb g mc) (l : mc.le mc') : Own m sb g mc' := ⟨Mem.le_trans h.le l, h.rep.le l, h.new⟩
theorem Own.zero {m mc : Mem} {sb : Nat} {g : G} (h : Own m sb g mc) (hG : GlobOk m) : ¬ FP sb g 0 := fun hp => by
  obtain ⟨c, e, fz, h1, _⟩ := hG
  have := h.new 0 hp
  rw [h1] at this; cases this
theorem Own.glob {m mc : Mem} {sb : Nat} {g : G} (h : Own m sb g mc) (hG : GlobOk m) : GlobOk mc := hG.le h.le

theorem Own.step {β : Type} {m mc m2 : Mem} {sb : Nat} {g : G} {F : A × Int × β} {X : Mem → β → Prop} {x : Int} (h : Own m sb g mc) (o : OpR mc sb g (fun _ => False) F X m2 x) :
    ∃ g2, Own m sb g2 m2 ∧ g2.abs = F.1 ∧ x = F.2.1 ∧ X m2 F.2.2 := by
  obtain ⟨g2, h1, h2, h3, h4, h5⟩ := o
  refine ⟨g2, ⟨fun b o hb => h2.keep b o (h.le _ _ hb) ?_, h1, fun b hb => ?_⟩, h3, h4, h5⟩
  · rintro (x | x)
    · rw [h.new b x] at hb; cases hb
    · exact x
  · rcases h2.new b hb with (x | x) | x
    · exact h.new b x
    · exact x.elim
    · exact Mem.none_le h.le x

/-- A store as New makes it. -/
def A0 (fl : List File2) (xl : List Fail3) : A := { look := fun s => (fl.find? fun f => decide (s = f.1)).map fun f => f.2.data.toList, count := fl.length, hnd := fun _ => none, fails := xl, n := 0 }

theorem look_list : ∀ (L : List Ent) (fl : List File2), L.map (fun e => (e.name, e.bs)) = fl.map (fun f => (f.1, f.2.data.toList)) → ∀ s, (getE L s).map (·.bs) = (fl.find? fun f => decide (s = f.1)).map fun f => f.2.data.toList
  | [], [], _, s => rfl
  | [], _ :: _, h, _ => by cases h
  | _ :: _, [], h, _ => by cases h
  | e :: L, f :: fl, h, s => by
    simp only [List.map_cons, List.cons.injEq, Prod.mk.injEq] at h
    have ih := look_list L fl h.2 s
    unfold getE at ih ⊢
    rw [List.find?_cons, List.find?_cons, h.1.1]
    by_cases hs : s = f.1
    · simp [hs, h.1.2]
    · simp only [hs, decide_false]; exact ih

theorem abs_new {g : G} {fl : List File2} {xl : List Fail3} (h1 : g.L.map (fun e => (e.name, e.bs)) = fl.map (fun f => (f.1, f.2.data.toList))) (h2 : g.O = []) (h3 : g.fails = xl) (h4 : g.n = 0) : g.abs = A0 fl xl := by
  have hl : g.L.length = fl.length := by have := congrArg List.length h1; simpa using this
  simp only [G.abs, A0, A.mk.injEq, h3, h4, and_true, hl, true_and]
  refine ⟨?_, ?_⟩
  · funext s; exact look_list g.L fl h1 s
  · funext i; rw [h2]; rfl

theorem NewR.own {m m' : Mem} {fl : List File2} {xl : List Fail3} {v : Value} (h : NewR m fl xl v m') (l : m.le m') (h0 : newE fl xl.length = 0) :
    ∃ sb g, v = .tuple #[.pointer (some ⟨sb, 0, none⟩), .int .i64 0] ∧ Own m sb g m' ∧ g.abs = A0 fl xl := by
  obtain ⟨sb, g, h1, h2, h3, h4, h5, h6, h7⟩ := h.1 h0
  exact ⟨sb, g, h1, ⟨l, h2, h3⟩, abs_new h4 h5 h6 h7⟩

theorem isNameB_eq (s : ByteArray) : isNameB s = (decide (0 < s.size) && decide (s.size ≤ 255)) := by
  unfold isNameB
  have h : s.toList = s.data.toList := ByteArray.toList_eq s
  rw [h]
  have hs : s.size = s.data.toList.length := (Array.length_toList).symm
  rw [Bool.eq_iff_iff]
  simp only [Bool.and_eq_true, Bool.not_eq_true', decide_eq_true_eq, List.isEmpty_eq_false_iff, hs]
  constructor
  · rintro ⟨h1, h2⟩
    exact ⟨List.length_pos_iff.2 h1, by omega⟩
  · rintro ⟨h1, h2⟩
    exact ⟨List.length_pos_iff.1 h1, by omega⟩

/-- 'string(b)'. -/
theorem conv_back {m : Mem} {v : Value} {bs : List UInt8} (h : Wind m v bs) (w : World) (hm : Has w m) : (convert 26 9 v).run Tryz.prog w = .ok (.string ⟨bs.toArray⟩) w := by
  rcases h with ⟨rfl, rfl⟩ | ⟨g, o, cap, rfl, _, _, hc⟩
  · rw [run_convert_bytes_nil w 26 5 Tryz.underlying26 Tryz.underlying5 0 0 9 Tryz.underlying9]
    rfl
  · have hcw := hc.at hm
    have hadd : ∀ j, (⟨g, o, none⟩ : Addr).add j = ⟨g, o + j, none⟩ := fun j => by unfold Addr.add; split <;> simp_all
    have := run_convert_bytes_arg (P := Tryz.prog) w 26 5 Tryz.underlying26 Tryz.underlying5 g o bs.length cap (bs.map fun x => (x.toNat : Int)) (by simp) (fun i hi => by
      rw [← hadd]
      exact hcw i _ (by simp [hi, byteV, List.getD_eq_getElem?_getD])) 9 Tryz.underlying9
    rw [this]
    have hb := bytes_back bs
    unfold Lib.bytesOf at hb
    unfold strOfNums
    rw [hb]
end Go.Proofs.YtcdmdkgiabfbeaaGreatDoor
