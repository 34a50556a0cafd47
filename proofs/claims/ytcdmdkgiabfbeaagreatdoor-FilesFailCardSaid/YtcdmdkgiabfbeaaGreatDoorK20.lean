/-
  The document's operations by name: Status, Open, Delete, Rename, Create. (printed by refn_gen.py)
-/
import Derived.Test.YtcdmdkgiabfbeaaGreatDoorK18
import Derived.Test.YtcdmdkgiabfbeaaGreatDoorK10
namespace Go.Proofs.YtcdmdkgiabfbeaaGreatDoor
open Go.RowKit

theorem abs_lookN {r : RG} {s : ByteArray} (h : getR r.tick.F s = none) : (r.abs.look s).isNone = true := by
  show ((getR r.F s).map (·.bs)).isNone = true
  rw [show getR r.F s = none from h]; rfl
theorem abs_lookS {r : RG} {s : ByteArray} {f : RF} (h : getR r.tick.F s = some f) : r.abs.look s = some f.bs := by
  show (getR r.F s).map (·.bs) = _
  rw [show getR r.F s = some f from h]; rfl
theorem abs_lookS' {r : RG} {s : ByteArray} {f : RF} (h : getR r.tick.F s = some f) : (r.abs.look s).isNone = false ∧ (r.abs.look s).isSome = true := by
  rw [abs_lookS h]; exact ⟨rfl, rfl⟩

set_option maxHeartbeats 2000000 in
set_option maxRecDepth 100000 in
theorem status_ref (rb : Nat) (s : ByteArray) (r : RG) (w : World) (m : Mem) (hm : Has w m) (hr : RR m rb r) (hn : r.n ≤ 9998) :
    Calls Tryz.prog 61 #[.pointer (some ⟨rb, 0, none⟩), .string s] w
      (AnsB w fun v m2 x => ROpR m rb r (r.abs.statusF s) (fun _ i => v = .int .i64 i) m2 x) := by
  have HOP := Lib.hid (op_ref rb r w m hm hr.rep (by omega))
  have HR := Lib.hid hr
  have HT := Lib.hid hr.tick
  have FT := Lib.hid (RR.frTick m rb r)
  clear hm hr
  go_enter Tryz.func61, Tryz.ntmps61
  go_wp2_with fail
  refine HOP.out.mono ?_
  rintro e w1 ⟨rfl, h1, n1⟩
  have H1 := Lib.hid h1
  have N1 := Lib.hid n1
  clear h1 n1 HOP
  obtain ⟨x, hxx⟩ : ∃ x, r.now.2.1 = x := ⟨_, rfl⟩
  rw [hxx]
  have HXX : Hid (r.abs.now.2.1 = x) := Lib.hid hxx
  clear hxx
  by_cases hx : x = 0
  · subst hx
    obtain ⟨m1, hm1⟩ : ∃ m1, m.set rb (rstoreObj r.tick) = m1 := ⟨_, rfl⟩
    have ET := HR.out.early (β := Int) (-38) 0 (fun _ i => (.int .i64 0 : Value) = .int .i64 i) rfl
    have ET2 := HR.out.early (β := Int) (-69) 0 (fun _ i => (.int .i64 0 : Value) = .int .i64 i) rfl
    have ET3 := HR.out.early (β := Int) (-20) 0 (fun _ i => (.int .i64 0 : Value) = .int .i64 i) rfl
    have ET4 := HR.out.early (β := Int) (-8) 0 (fun _ i => (.int .i64 0 : Value) = .int .i64 i) rfl
    rw [hm1] at H1 HT FT ET ET2 ET3 ET4
    have HE38 := Lib.hid ET
    have HE69 := Lib.hid ET2
    have HE20 := Lib.hid ET3
    have HE8 := Lib.hid ET4
    clear hm1 ET ET2 ET3 ET4
    go_wp2_with fail
    refine (find_any rb r.tick s _ m1 H1.out HT.out.rep (by show r.n + 1 ≤ _; omega)).mono ?_
    rintro e wy ⟨n, rfl, hn, hwy⟩
    rw [hwy]
    clear hwy
    have HFIn := Lib.hid (HT.out.rep.find hn)
    clear hn
    go_wp2_with fail
    refine (named_ref s _).mono ?_
    rintro e wy ⟨rfl, hwy⟩
    rw [hwy]
    clear hwy
    obtain ⟨bn, hbn⟩ : ∃ bn, isNameB s = bn := ⟨_, rfl⟩
    rw [hbn]
    have HBN := Lib.hid hbn
    clear hbn
    by_cases hn0 : n = 0
    · subst hn0
      have HX : Hid (r.abs.statusX s = -38) := Lib.hid (by
        rcases HFIn.out with ⟨_, hg⟩ | ⟨h, _⟩
        · unfold A.statusX
          rw [HXX.out, if_neg (fun c => c rfl), abs_lookN hg]
          cases isNameB s <;> rfl
        · omega)
      cases bn <;>
      · go_wp2_with fail
        refine bodyPost_ret (v := .tuple #[.int .i64 0, .int .i64 (-38)]) (by simp [results, Tryz.results61, go_sem]) rfl ?_
        have hF : r.abs.statusF s = (r.abs.tick, -38, 0) := by unfold A.statusF; rw [HX.out, if_pos (by decide)]
        rw [hF]
        exact ⟨_, _, _, rfl, H1.out, N1.out, HE38.out⟩
    · obtain ⟨f, hf, hname, hg, hne⟩ : ∃ f, r.F[n]? = some f ∧ f.name = s ∧ getR r.tick.F s = some f ∧ s ≠ ⟨#[]⟩ := by
        rcases HFIn.out with ⟨h, _⟩ | ⟨_, h0, f, h1, h2, h3⟩
        · exact absurd h hn0
        · exact ⟨f, h1, h2, h3, h0⟩
      have hbt : bn = true := by rw [← HBN.out, ← hname]; exact HR.out.rep.named f (List.mem_of_getElem? hf) (by rw [hname]; exact hne)
      subst hbt
      have HX : Hid (r.abs.statusX s = 0) := Lib.hid (by
        unfold A.statusX
        rw [HXX.out, if_neg (fun c => c rfl), (abs_lookS' hg).1, HBN.out]; rfl)
      have BS : Hid (r.abs.bytes s = f.bs) := Lib.hid (by unfold A.bytes; rw [abs_lookS hg]; rfl)
      have hb0 : ((n : Int) == 0) = false := by rw [beq_eq_false_iff_ne]; omega
      obtain ⟨fb, fcap, hfv, hat0⟩ := HT.out.rep.at H1.out
      clear hat0
      obtain ⟨c0, flt, hatf⟩ := HT.out.rep.at' H1.out hfv
      have hfl : n < r.F.length := (List.getElem?_eq_some_iff.1 hf).1
      have hflen : r.F.length ≤ 101 + (r.n + 1) := HT.out.rep.flen
      obtain ⟨g0, g1⟩ := hatf n hfl
      change w1.cell? ⟨fb, n * 2, none⟩ = some (.string r.F[n].name) at g0
      change w1.cell? ⟨fb, n * 2 + 1, none⟩ = some r.F[n].bv at g1
      have hfe : r.F[n] = f := (List.getElem?_eq_some_iff.1 hf).2
      rw [hfe] at g0 g1
      obtain ⟨ba, bc, hbv, hbc⟩ := (HT.out.rep.bytes f (List.mem_of_getElem? hf)).lenV
      have hbl := HT.out.rep.bsz f (List.mem_of_getElem? hf)
      rw [hbv] at g1
      have HFV := Lib.hid hfv
      have HBV := Lib.hid hbv
      change w1.cell? ⟨rb, 0, none⟩ = some (.slice (some ⟨fb, 0, none⟩) r.F.length fcap) at c0
      have rlt := H1.out.lt HT.out.rep.store
      clear hatf hfe hfv hbv
      clear hf hname hg hne g0
      go_wp2_with fail
      refine bodyPost_ret (v := .tuple #[.int .i64 f.bs.length, .int .i64 0]) (by simp [results, Tryz.results61, go_sem]) rfl ?_
      have hF : r.abs.statusF s = (r.abs.tick, 0, (f.bs.length : Int)) := by unfold A.statusF; rw [HX.out, if_neg (fun c => c rfl), BS.out]
      rw [hF]
      exact ⟨_, _, _, rfl, H1.out, N1.out, r.tick, HT.out, FT.out, rfl, rfl, rfl⟩
  · have HE := Lib.hid (HR.out.early x 0 (fun _ i => (.int .i64 0 : Value) = .int .i64 i) rfl)
    have HNE := Lib.hid hx
    have hb : (x == 0) = false := by simpa using hx
    clear hx
    go_wp2_with fail
    refine bodyPost_ret (v := .tuple #[.int .i64 0, .int .i64 (x)]) (by simp [results, Tryz.results61, go_sem]) rfl ?_
    have hX : r.abs.statusX s = x := by unfold A.statusX; rw [HXX.out, if_pos HNE.out]
    have hF : r.abs.statusF s = (r.abs.tick, x, 0) := by unfold A.statusF; rw [hX, if_pos HNE.out]
    rw [hF]
    exact ⟨_, _, _, rfl, H1.out, N1.out, HE.out⟩

set_option maxHeartbeats 2000000 in
set_option maxRecDepth 100000 in
theorem delete_ref (rb : Nat) (s : ByteArray) (r : RG) (w : World) (m : Mem) (hm : Has w m) (hr : RR m rb r) (hn : r.n ≤ 9998) :
    Calls Tryz.prog 58 #[.pointer (some ⟨rb, 0, none⟩), .string s] w
      (Ans w (ROpR m rb r (r.abs.deleteF s) (fun _ _ => True))) := by
  have HOP := Lib.hid (op_ref rb r w m hm hr.rep (by omega))
  have HR := Lib.hid hr
  have HT := Lib.hid hr.tick
  have FT := Lib.hid (RR.frTick m rb r)
  clear hm hr
  go_enter Tryz.func58, Tryz.ntmps58
  go_wp2_with fail
  refine HOP.out.mono ?_
  rintro e w1 ⟨rfl, h1, n1⟩
  have H1 := Lib.hid h1
  have N1 := Lib.hid n1
  clear h1 n1 HOP
  obtain ⟨x, hxx⟩ : ∃ x, r.now.2.1 = x := ⟨_, rfl⟩
  rw [hxx]
  have HXX : Hid (r.abs.now.2.1 = x) := Lib.hid hxx
  clear hxx
  by_cases hx : x = 0
  · subst hx
    obtain ⟨m1, hm1⟩ : ∃ m1, m.set rb (rstoreObj r.tick) = m1 := ⟨_, rfl⟩
    have ET := HR.out.early (β := Unit) (-38) () (fun _ _ => True) trivial
    have ET2 := HR.out.early (β := Unit) (-69) () (fun _ _ => True) trivial
    have ET3 := HR.out.early (β := Unit) (-20) () (fun _ _ => True) trivial
    have ET4 := HR.out.early (β := Unit) (-8) () (fun _ _ => True) trivial
    rw [hm1] at H1 HT FT ET ET2 ET3 ET4
    have HE38 := Lib.hid ET
    have HE69 := Lib.hid ET2
    have HE20 := Lib.hid ET3
    have HE8 := Lib.hid ET4
    clear hm1 ET ET2 ET3 ET4
    go_wp2_with fail
    refine (find_any rb r.tick s _ m1 H1.out HT.out.rep (by show r.n + 1 ≤ _; omega)).mono ?_
    rintro e wy ⟨n, rfl, hn, hwy⟩
    rw [hwy]
    clear hwy
    have HFIn := Lib.hid (HT.out.rep.find hn)
    clear hn
    go_wp2_with fail
    refine (named_ref s _).mono ?_
    rintro e wy ⟨rfl, hwy⟩
    rw [hwy]
    clear hwy
    obtain ⟨bn, hbn⟩ : ∃ bn, isNameB s = bn := ⟨_, rfl⟩
    rw [hbn]
    have HBN := Lib.hid hbn
    clear hbn
    by_cases hn0 : n = 0
    · subst hn0
      have HX : Hid (r.abs.deleteX s = -38) := Lib.hid (by
        rcases HFIn.out with ⟨_, hg⟩ | ⟨h, _⟩
        · unfold A.deleteX
          rw [HXX.out, if_neg (fun c => c rfl), abs_lookN hg]
          cases isNameB s <;> rfl
        · omega)
      cases bn <;>
      · go_wp2_with fail
        go_ret
        have hF : r.abs.deleteF s = (r.abs.tick, -38, ()) := by unfold A.deleteF; rw [HX.out, if_pos (by decide)]
        rw [hF]
        exact ⟨_, _, rfl, H1.out, N1.out, HE38.out⟩
    · obtain ⟨f, hf, hname, hg, hne⟩ : ∃ f, r.F[n]? = some f ∧ f.name = s ∧ getR r.tick.F s = some f ∧ s ≠ ⟨#[]⟩ := by
        rcases HFIn.out with ⟨h, _⟩ | ⟨_, h0, f, h1, h2, h3⟩
        · exact absurd h hn0
        · exact ⟨f, h1, h2, h3, h0⟩
      have hbt : bn = true := by rw [← HBN.out, ← hname]; exact HR.out.rep.named f (List.mem_of_getElem? hf) (by rw [hname]; exact hne)
      subst hbt
      have hb0 : ((n : Int) == 0) = false := by rw [beq_eq_false_iff_ne]; omega
      have HG := Lib.hid hg
      have HF := Lib.hid hf
      have HNM := Lib.hid hname
      have HNZ := Lib.hid hne
      clear hg hne hname
      go_wp2_with fail
      refine (used_ref rb r.tick n _ m1 H1.out HT.out).mono ?_
      rintro e wy ⟨ub, rfl, hwy, hub⟩
      rw [hwy]
      clear hwy
      have HU : Hid (r.abs.used s = ub) := Lib.hid (by
        rw [← HNM.out]
        have h1 := HT.out.used (k := n) HF.out hn0 (by rw [HNM.out]; exact HNZ.out)
        rw [Bool.eq_iff_iff]
        exact h1.trans hub.symm)
      clear hub
      cases ub with
      | true =>
        have HX : Hid (r.abs.deleteX s = -69) := Lib.hid (by
          unfold A.deleteX
          rw [HXX.out, if_neg (fun c => c rfl), (abs_lookS' HG.out).1, HBN.out, HU.out]; rfl)
        clear hf
        go_wp2_with fail
        go_ret
        have hF : r.abs.deleteF s = (r.abs.tick, -69, ()) := by unfold A.deleteF; rw [HX.out, if_pos (by decide)]
        rw [hF]
        exact ⟨_, _, rfl, H1.out, N1.out, HE69.out⟩
      | false =>
        have HX : Hid (r.abs.deleteX s = 0) := Lib.hid (by
          unfold A.deleteX
          rw [HXX.out, if_neg (fun c => c rfl), (abs_lookS' HG.out).1, HBN.out, HU.out]; rfl)
        obtain ⟨fb, fcap, hfv, hat0⟩ := HT.out.rep.at H1.out
        clear hat0
        obtain ⟨c0, flt, hatf⟩ := HT.out.rep.at' H1.out hfv
        have hfl : n < r.F.length := (List.getElem?_eq_some_iff.1 hf).1
        have hflen : r.F.length ≤ 101 + (r.n + 1) := HT.out.rep.flen
        obtain ⟨g0, g1⟩ := hatf n hfl
        change w1.cell? ⟨fb, n * 2, none⟩ = some (.string r.F[n].name) at g0
        change w1.cell? ⟨fb, n * 2 + 1, none⟩ = some r.F[n].bv at g1
        have hfe : r.F[n] = f := (List.getElem?_eq_some_iff.1 hf).2
        rw [hfe] at g0 g1
        obtain ⟨ba, bc, hbv, hbc⟩ := (HT.out.rep.bytes f (List.mem_of_getElem? hf)).lenV
        have hbl := HT.out.rep.bsz f (List.mem_of_getElem? hf)
        rw [hbv] at g1
        have HFV := Lib.hid hfv
        have HBV := Lib.hid hbv
        change w1.cell? ⟨rb, 0, none⟩ = some (.slice (some ⟨fb, 0, none⟩) r.F.length fcap) at c0
        have rlt := H1.out.lt HT.out.rep.store
        clear hatf hfe hfv hbv
        have hnu := HT.out.notUsed (k := n) hf hn0 (by rw [HNM.out]; exact HNZ.out) (by rw [HNM.out]; exact HU.out)
        have hdist : Dist (r.tick.F.set n ⟨⟨#[]⟩, .slice none 0 0, []⟩) := dist_set HT.out.rep.dist fun i d _ _ h => absurd rfl h
        obtain ⟨hfz, m2, h2, r2, f2⟩ := HT.out.setF HFV.out (k := n) hf hn0 (fun b o ho _ => ho) ⟨⟨#[]⟩, .slice none 0 0, []⟩ 0 [.string ⟨#[]⟩, .slice none 0 0] (Nat.le_refl 2) rfl (Row.nil _ _ _) (fun b h => by cases h) hdist (fun h => absurd rfl h) (Nat.zero_le _) (fun _ => hnu) H1.out
        have AB := Lib.hid (abs_putD (r := r.tick) HT.out.rep.dist hf (f' := ⟨⟨#[]⟩, .slice none 0 0, []⟩) rfl (by rw [HNM.out]; exact HNZ.out) hnu)
        have z0 := hfz (n * 2) (by have : n < r.F.length := hfl; show n * 2 < r.F.length * 2; omega)
        have z1 := hfz (n * 2 + 1) (by have : n < r.F.length := hfl; show n * 2 + 1 < r.F.length * 2; omega)
        have H2 := Lib.hid h2
        have R2 := Lib.hid r2
        have F2 := Lib.hid f2
        clear hfz h2 r2 f2 hdist hnu hf
        go_wp2_with fail
        go_ret
        have hF : r.abs.deleteF s = (r.abs.tick.drop s, 0, ()) := by unfold A.deleteF; rw [HX.out, if_neg (fun c => c rfl)]
        rw [hF]
        refine ⟨_, m2, rfl, H2.out, (N1.out.setCell _ _).setCell _ _, _, R2.out, FT.out.trans F2.out, ?_, rfl, trivial⟩
        rw [AB.out, HNM.out]; rfl
  · have HE := Lib.hid (HR.out.early x () (fun _ _ => True) trivial)
    have HNE := Lib.hid hx
    have hb : (x == 0) = false := by simpa using hx
    clear hx
    go_wp2_with fail
    go_ret
    have hX : r.abs.deleteX s = x := by unfold A.deleteX; rw [HXX.out, if_pos HNE.out]
    have hF : r.abs.deleteF s = (r.abs.tick, x, ()) := by unfold A.deleteF; rw [hX, if_pos HNE.out]
    rw [hF]
    exact ⟨_, _, rfl, H1.out, N1.out, HE.out⟩

set_option maxHeartbeats 2000000 in
set_option maxRecDepth 100000 in
theorem open_ref (rb : Nat) (s : ByteArray) (mode : Int) (r : RG) (w : World) (m : Mem) (hm : Has w m) (hr : RR m rb r) (hn : r.n ≤ 9998) :
    Calls Tryz.prog 56 #[.pointer (some ⟨rb, 0, none⟩), .string s, .int .i64 mode] w
      (AnsB w fun v m2 x => ROpR m rb r (r.abs.openF s mode) (fun _ i => v = .int .i64 i) m2 x) := by
  have HOP := Lib.hid (op_ref rb r w m hm hr.rep (by omega))
  have HR := Lib.hid hr
  have HT := Lib.hid hr.tick
  have FT := Lib.hid (RR.frTick m rb r)
  clear hm hr
  go_enter Tryz.func56, Tryz.ntmps56
  go_wp2_with fail
  refine HOP.out.mono ?_
  rintro e w1 ⟨rfl, h1, n1⟩
  have H1 := Lib.hid h1
  have N1 := Lib.hid n1
  clear h1 n1 HOP
  obtain ⟨x, hxx⟩ : ∃ x, r.now.2.1 = x := ⟨_, rfl⟩
  rw [hxx]
  have HXX : Hid (r.abs.now.2.1 = x) := Lib.hid hxx
  clear hxx
  by_cases hx : x = 0
  · subst hx
    obtain ⟨m1, hm1⟩ : ∃ m1, m.set rb (rstoreObj r.tick) = m1 := ⟨_, rfl⟩
    have ET := HR.out.early (β := Int) (-38) 0 (fun _ i => (.int .i64 0 : Value) = .int .i64 i) rfl
    have ET2 := HR.out.early (β := Int) (-69) 0 (fun _ i => (.int .i64 0 : Value) = .int .i64 i) rfl
    have ET3 := HR.out.early (β := Int) (-20) 0 (fun _ i => (.int .i64 0 : Value) = .int .i64 i) rfl
    have ET4 := HR.out.early (β := Int) (-8) 0 (fun _ i => (.int .i64 0 : Value) = .int .i64 i) rfl
    rw [hm1] at H1 HT FT ET ET2 ET3 ET4
    have HE38 := Lib.hid ET
    have HE69 := Lib.hid ET2
    have HE20 := Lib.hid ET3
    have HE8 := Lib.hid ET4
    clear hm1 ET ET2 ET3 ET4
    go_wp2_with fail
    refine (named_ref s _).mono ?_
    rintro e wy ⟨rfl, hwy⟩
    rw [hwy]
    clear hwy
    obtain ⟨bn, hbn⟩ : ∃ bn, isNameB s = bn := ⟨_, rfl⟩
    rw [hbn]
    have HBN := Lib.hid hbn
    clear hbn
    cases bn with
    | false =>
      have HX : Hid (r.abs.openX s mode = -38) := Lib.hid (by
        unfold A.openX
        rw [HXX.out, if_neg (fun c => c rfl), HBN.out]; rfl)
      go_wp2_with fail
      refine bodyPost_ret (v := .tuple #[.int .i64 0, .int .i64 (-38)]) (by simp [results, Tryz.results56, go_sem]) rfl ?_
      have hF : r.abs.openF s mode = (r.abs.tick, -38, 0) := by unfold A.openF; rw [HX.out, if_pos (by decide)]
      rw [hF]
      exact ⟨_, _, _, rfl, H1.out, N1.out, HE38.out⟩
    | true =>
      go_wp2_with fail
      refine (mode_ref mode _).mono ?_
      rintro e wy ⟨rfl, hwy⟩
      rw [hwy]
      clear hwy
      obtain ⟨bm, hbm⟩ : ∃ bm, modeB mode = bm := ⟨_, rfl⟩
      rw [hbm]
      have HBM := Lib.hid hbm
      clear hbm
      cases bm with
      | false =>
        have HX : Hid (r.abs.openX s mode = -20) := Lib.hid (by
          unfold A.openX
          rw [HXX.out, if_neg (fun c => c rfl), HBN.out, HBM.out]; rfl)
        go_wp2_with fail
        refine bodyPost_ret (v := .tuple #[.int .i64 0, .int .i64 (-20)]) (by simp [results, Tryz.results56, go_sem]) rfl ?_
        have hF : r.abs.openF s mode = (r.abs.tick, -20, 0) := by unfold A.openF; rw [HX.out, if_pos (by decide)]
        rw [hF]
        exact ⟨_, _, _, rfl, H1.out, N1.out, HE20.out⟩
      | true =>
        go_wp2_with fail
        refine (find_any rb r.tick s _ m1 H1.out HT.out.rep (by show r.n + 1 ≤ _; omega)).mono ?_
        rintro e wy ⟨n, rfl, hn, hwy⟩
        rw [hwy]
        clear hwy
        have HFIn := Lib.hid (HT.out.rep.find hn)
        clear hn
        by_cases hn0 : n = 0
        · subst hn0
          have HX : Hid (r.abs.openX s mode = -38) := Lib.hid (by
            rcases HFIn.out with ⟨_, hg⟩ | ⟨h, _⟩
            · unfold A.openX
              rw [HXX.out, if_neg (fun c => c rfl), abs_lookN hg, HBN.out, HBM.out]; rfl
            · omega)
          go_wp2_with fail
          refine bodyPost_ret (v := .tuple #[.int .i64 0, .int .i64 (-38)]) (by simp [results, Tryz.results56, go_sem]) rfl ?_
          have hF : r.abs.openF s mode = (r.abs.tick, -38, 0) := by unfold A.openF; rw [HX.out, if_pos (by decide)]
          rw [hF]
          exact ⟨_, _, _, rfl, H1.out, N1.out, HE38.out⟩
        · have hb0 : ((n : Int) == 0) = false := by rw [beq_eq_false_iff_ne]; omega
          obtain ⟨f, hf, hname, hg, hne⟩ : ∃ f, r.F[n]? = some f ∧ f.name = s ∧ getR r.tick.F s = some f ∧ s ≠ ⟨#[]⟩ := by
            rcases HFIn.out with ⟨h, _⟩ | ⟨_, h0, f, h1, h2, h3⟩
            · exact absurd h hn0
            · exact ⟨f, h1, h2, h3, h0⟩
          have HG := Lib.hid hg
          have HF := Lib.hid hf
          have HNM := Lib.hid hname
          have HNZ := Lib.hid hne
          clear hg hne hname hf
          go_wp2_with fail
          refine (free_ref rb r.tick _ m1 H1.out HT.out).mono ?_
          rintro e wy ⟨id, rfl, hwy, hid⟩
          rw [hwy]
          have HID := Lib.hid hid
          clear hwy hid
          by_cases hid0 : id = 0
          · subst hid0
            have HX : Hid (r.abs.openX s mode = -8) := Lib.hid (by
              have hfr : r.abs.free = none := by
                rcases HID.out with ⟨_, h⟩ | ⟨h, _⟩
                · exact h
                · omega
              unfold A.openX
              rw [HXX.out, if_neg (fun c => c rfl), (abs_lookS' HG.out).1, HBN.out, HBM.out, hfr]; rfl)
            go_wp2_with fail
            refine bodyPost_ret (v := .tuple #[.int .i64 0, .int .i64 (-8)]) (by simp [results, Tryz.results56, go_sem]) rfl ?_
            have hF : r.abs.openF s mode = (r.abs.tick, -8, 0) := by unfold A.openF; rw [HX.out, if_pos (by decide)]
            rw [hF]
            exact ⟨_, _, _, rfl, H1.out, N1.out, HE8.out⟩
          · obtain ⟨hid1, hid2, hfr⟩ : 1 ≤ id ∧ id ≤ 32 ∧ r.abs.free = some (id - 1) := by
              rcases HID.out with ⟨h, _⟩ | h
              · exact absurd h hid0
              · exact h
            have hb1 : ((id : Int) == 0) = false := by rw [beq_eq_false_iff_ne]; omega
            have HFR := Lib.hid hfr
            have HX : Hid (r.abs.openX s mode = 0) := Lib.hid (by
              unfold A.openX
              rw [HXX.out, if_neg (fun c => c rfl), (abs_lookS' HG.out).1, HBN.out, HBM.out, hfr]; rfl)
            obtain ⟨ob, ocap, hov, hat⟩ := HT.out.rep.atO
            have hfz := HT.out.rep.frozO hov H1.out
            obtain ⟨c1, olt, hat⟩ := hat w1 H1.out
            obtain ⟨o, ho⟩ : ∃ o, r.tick.O[id]? = some o := ⟨_, List.getElem?_eq_getElem (by rw [HT.out.rep.olen]; omega)⟩
            obtain ⟨e0, e1, e2⟩ := hat id o ho
            have rlt := H1.out.lt HT.out.rep.store
            obtain ⟨m2, h2, r2, f2⟩ := HT.out.setO hov (o := o) ho hid1 ⟨n, mode, 0⟩ 0 [.int .i64 n, .int .i64 mode, .int .i64 0] (Nat.le_refl 3) rfl (.inr ⟨f, HF.out, by rw [HNM.out]; exact HNZ.out⟩) (Nat.zero_le _) H1.out
            have AB := Lib.hid (show ({ r.tick with O := r.tick.O.set id ⟨n, mode, 0⟩ } : RG).abs = r.abs.tick.setH (id - 1) (some (s, mode, 0)) from by
              have h1 := abs_putO (r := r.tick) (k := id - 1) ⟨n, mode, 0⟩ (by rw [show id - 1 + 1 = id from by omega]; exact (List.getElem?_eq_some_iff.1 ho).1)
              rw [show id - 1 + 1 = id from by omega] at h1
              rw [h1]
              unfold roAbs
              rw [if_neg (show ¬ ({ file := n, mode := mode, pos := 0 } : RO).file = 0 from hn0)]
              show A.setH _ _ ((r.F[n]?).map _) = _
              rw [HF.out]
              show A.setH _ _ (some (f.name, mode, 0)) = _
              rw [HNM.out]; rfl)
            have z0 := hfz (id * 3) (by omega)
            have z1 := hfz (id * 3 + 1) (by omega)
            have z2 := hfz (id * 3 + 2) (by omega)
            have H2 := Lib.hid h2
            have R2 := Lib.hid r2
            have F2 := Lib.hid f2
            clear hfz hat h2 r2 f2 ho hov hfr
            go_wp2_with fail
            refine bodyPost_ret (v := .tuple #[.int .i64 id, .int .i64 0]) (by simp [results, Tryz.results56, go_sem]) rfl ?_
            have hF : r.abs.openF s mode = (r.abs.tick.setH (id - 1) (some (s, mode, 0)), 0, (id : Int)) := by
              unfold A.openF
              rw [HX.out, if_neg (fun c => c rfl), HFR.out]
              show (_, _, ((id - 1 : Nat) : Int) + 1) = _
              rw [show ((id - 1 : Nat) : Int) + 1 = id from by omega]; rfl
            rw [hF]
            exact ⟨_, _, m2, rfl, H2.out, ((N1.out.setCell _ _).setCell _ _).setCell _ _, _, R2.out, FT.out.trans F2.out, AB.out, rfl, rfl⟩
  · have HE := Lib.hid (HR.out.early x 0 (fun _ i => (.int .i64 0 : Value) = .int .i64 i) rfl)
    have HNE := Lib.hid hx
    have hb : (x == 0) = false := by simpa using hx
    clear hx
    go_wp2_with fail
    refine bodyPost_ret (v := .tuple #[.int .i64 0, .int .i64 (x)]) (by simp [results, Tryz.results56, go_sem]) rfl ?_
    have hX : r.abs.openX s mode = x := by unfold A.openX; rw [HXX.out, if_pos HNE.out]
    have hF : r.abs.openF s mode = (r.abs.tick, x, 0) := by unfold A.openF; rw [hX, if_pos HNE.out]
    rw [hF]
    exact ⟨_, _, _, rfl, H1.out, N1.out, HE.out⟩

set_option maxHeartbeats 2000000 in
set_option maxRecDepth 100000 in
theorem rename_ref (rb : Nat) (s t : ByteArray) (r : RG) (w : World) (m : Mem) (hm : Has w m) (hr : RR m rb r) (hn : r.n ≤ 9998) :
    Calls Tryz.prog 59 #[.pointer (some ⟨rb, 0, none⟩), .string s, .string t] w
      (Ans w (ROpR m rb r (r.abs.renF s t) (fun _ _ => True))) := by
  have HOP := Lib.hid (op_ref rb r w m hm hr.rep (by omega))
  have HR := Lib.hid hr
  have HT := Lib.hid hr.tick
  have FT := Lib.hid (RR.frTick m rb r)
  clear hm hr
  go_enter Tryz.func59, Tryz.ntmps59
  go_wp2_with fail
  refine HOP.out.mono ?_
  rintro e w1 ⟨rfl, h1, n1⟩
  have H1 := Lib.hid h1
  have N1 := Lib.hid n1
  clear h1 n1 HOP
  obtain ⟨x, hxx⟩ : ∃ x, r.now.2.1 = x := ⟨_, rfl⟩
  rw [hxx]
  have HXX : Hid (r.abs.now.2.1 = x) := Lib.hid hxx
  clear hxx
  by_cases hx : x = 0
  · subst hx
    obtain ⟨m1, hm1⟩ : ∃ m1, m.set rb (rstoreObj r.tick) = m1 := ⟨_, rfl⟩
    have ET := HR.out.early (β := Unit) (-38) () (fun _ _ => True) trivial
    have ET2 := HR.out.early (β := Unit) (-69) () (fun _ _ => True) trivial
    have ET3 := HR.out.early (β := Unit) (-20) () (fun _ _ => True) trivial
    have ET4 := HR.out.early (β := Unit) (-8) () (fun _ _ => True) trivial
    rw [hm1] at H1 HT FT ET ET2 ET3 ET4
    have HE38 := Lib.hid ET
    have HE69 := Lib.hid ET2
    have HE20 := Lib.hid ET3
    have HE8 := Lib.hid ET4
    clear hm1 ET ET2 ET3 ET4
    go_wp2_with fail
    refine (find_any rb r.tick s _ m1 H1.out HT.out.rep (by show r.n + 1 ≤ _; omega)).mono ?_
    rintro e wy ⟨n, rfl, hn, hwy⟩
    rw [hwy]
    clear hwy
    have HFIn := Lib.hid (HT.out.rep.find hn)
    clear hn
    go_wp2_with fail
    refine (named_ref s _).mono ?_
    rintro e wy ⟨rfl, hwy⟩
    rw [hwy]
    clear hwy
    obtain ⟨bn, hbn⟩ : ∃ bn, isNameB s = bn := ⟨_, rfl⟩
    rw [hbn]
    have HBN := Lib.hid hbn
    clear hbn
    cases bn with
    | false =>
      have HX : Hid (r.abs.renX s t = -38) := Lib.hid (by
        unfold A.renX
        rw [HXX.out, if_neg (fun c => c rfl), HBN.out]; rfl)
      go_wp2_with fail
      go_ret
      have hF : r.abs.renF s t = (r.abs.tick, -38, ()) := by unfold A.renF; rw [HX.out, if_pos (by decide)]
      rw [hF]
      exact ⟨_, _, rfl, H1.out, N1.out, HE38.out⟩
    | true =>
      go_wp2_with fail
      refine (named_ref t _).mono ?_
      rintro e wy ⟨rfl, hwy⟩
      rw [hwy]
      clear hwy
      obtain ⟨bt, hbt⟩ : ∃ bt, isNameB t = bt := ⟨_, rfl⟩
      rw [hbt]
      have HBT := Lib.hid hbt
      clear hbt
      cases bt with
      | false =>
        have HX : Hid (r.abs.renX s t = -38) := Lib.hid (by
          unfold A.renX
          rw [HXX.out, if_neg (fun c => c rfl), HBN.out, HBT.out]; rfl)
        go_wp2_with fail
        go_ret
        have hF : r.abs.renF s t = (r.abs.tick, -38, ()) := by unfold A.renF; rw [HX.out, if_pos (by decide)]
        rw [hF]
        exact ⟨_, _, rfl, H1.out, N1.out, HE38.out⟩
      | true =>
        by_cases hn0 : n = 0
        · subst hn0
          have HX : Hid (r.abs.renX s t = -38) := Lib.hid (by
            rcases HFIn.out with ⟨_, hg⟩ | ⟨h, _⟩
            · unfold A.renX
              rw [HXX.out, if_neg (fun c => c rfl), abs_lookN hg, HBN.out, HBT.out]; rfl
            · omega)
          go_wp2_with fail
          go_ret
          have hF : r.abs.renF s t = (r.abs.tick, -38, ()) := by unfold A.renF; rw [HX.out, if_pos (by decide)]
          rw [hF]
          exact ⟨_, _, rfl, H1.out, N1.out, HE38.out⟩
        · have hb0 : ((n : Int) == 0) = false := by rw [beq_eq_false_iff_ne]; omega
          obtain ⟨f, hf, hname, hg, hne⟩ : ∃ f, r.F[n]? = some f ∧ f.name = s ∧ getR r.tick.F s = some f ∧ s ≠ ⟨#[]⟩ := by
            rcases HFIn.out with ⟨h, _⟩ | ⟨_, h0, f, h1, h2, h3⟩
            · exact absurd h hn0
            · exact ⟨f, h1, h2, h3, h0⟩
          have HG := Lib.hid hg
          have HF := Lib.hid hf
          have HNM := Lib.hid hname
          have HNZ := Lib.hid hne
          clear hg hne hname
          go_wp2_with fail
          refine (used_ref rb r.tick n _ m1 H1.out HT.out).mono ?_
          rintro e wy ⟨ub, rfl, hwy, hub⟩
          rw [hwy]
          clear hwy
          have HU : Hid (r.abs.used s = ub) := Lib.hid (by
            rw [← HNM.out]
            have h1 := HT.out.used (k := n) HF.out hn0 (by rw [HNM.out]; exact HNZ.out)
            rw [Bool.eq_iff_iff]
            exact h1.trans hub.symm)
          clear hub
          cases ub with
          | true =>
            have HX : Hid (r.abs.renX s t = -69) := Lib.hid (by
              unfold A.renX
              rw [HXX.out, if_neg (fun c => c rfl), (abs_lookS' HG.out).1, HBN.out, HBT.out, HU.out]; rfl)
            clear hf
            go_wp2_with fail
            go_ret
            have hF : r.abs.renF s t = (r.abs.tick, -69, ()) := by unfold A.renF; rw [HX.out, if_pos (by decide)]
            rw [hF]
            exact ⟨_, _, rfl, H1.out, N1.out, HE69.out⟩
          | false =>
            go_wp2_with fail
            refine (find_any rb r.tick t _ m1 H1.out HT.out.rep (by show r.n + 1 ≤ _; omega)).mono ?_
            rintro e wy ⟨j, rfl, hj, hwy⟩
            rw [hwy]
            clear hwy
            have HFIj := Lib.hid (HT.out.rep.find hj)
            clear hj
            by_cases hj0 : j = 0
            · subst hj0
              obtain ⟨hgt⟩ : Nonempty (getR r.tick.F t = none) := by
                rcases HFIj.out with ⟨_, h⟩ | ⟨h, _⟩
                · exact ⟨h⟩
                · omega
              have HX : Hid (r.abs.renX s t = 0) := Lib.hid (by
                have hl : (r.abs.look t).isSome = false := by
                  have := abs_lookN hgt
                  cases h : r.abs.look t with
                  | none => rfl
                  | some x => rw [h] at this; cases this
                unfold A.renX
                rw [HXX.out, if_neg (fun c => c rfl), (abs_lookS' HG.out).1, HBN.out, HBT.out, HU.out, hl]; rfl)
              obtain ⟨fb, fcap, hfv, hat0⟩ := HT.out.rep.at H1.out
              clear hat0
              obtain ⟨c0, flt, hatf⟩ := HT.out.rep.at' H1.out hfv
              have hfl : n < r.F.length := (List.getElem?_eq_some_iff.1 hf).1
              have hflen : r.F.length ≤ 101 + (r.n + 1) := HT.out.rep.flen
              obtain ⟨g0, g1⟩ := hatf n hfl
              change w1.cell? ⟨fb, n * 2, none⟩ = some (.string r.F[n].name) at g0
              change w1.cell? ⟨fb, n * 2 + 1, none⟩ = some r.F[n].bv at g1
              have hfe : r.F[n] = f := (List.getElem?_eq_some_iff.1 hf).2
              rw [hfe] at g0 g1
              obtain ⟨ba, bc, hbv, hbc⟩ := (HT.out.rep.bytes f (List.mem_of_getElem? hf)).lenV
              have hbl := HT.out.rep.bsz f (List.mem_of_getElem? hf)
              rw [hbv] at g1
              have HFV := Lib.hid hfv
              have HBV := Lib.hid hbv
              change w1.cell? ⟨rb, 0, none⟩ = some (.slice (some ⟨fb, 0, none⟩) r.F.length fcap) at c0
              have rlt := H1.out.lt HT.out.rep.store
              clear hatf hfe hfv hbv
              have htne : t ≠ ⟨#[]⟩ := fun h => by
                have h1 := HBT.out
                rw [h, isNameB_eq] at h1
                revert h1; decide
              have hnu := HT.out.notUsed (k := n) hf hn0 (by rw [HNM.out]; exact HNZ.out) (by rw [HNM.out]; exact HU.out)
              have hdist : Dist (r.tick.F.set n ⟨t, f.bv, f.bs⟩) := dist_set HT.out.rep.dist fun i d hi hd _ he => by
                have h1 := (getR_iff HT.out.rep.dist (t := t) (f := d)).2 ⟨htne, he.symm, i, hd⟩
                rw [hgt] at h1; cases h1
              obtain ⟨hfz, m2, h2, r2, f2⟩ := HT.out.setF HFV.out (k := n) hf hn0 (fun b o ho _ => ho) ⟨t, f.bv, f.bs⟩ 0 [.string t] (by simp) rfl (HT.out.rep.bytes f (List.mem_of_getElem? hf)) (fun b h => .inl h) hdist (fun _ => HBT.out) hbl (fun h => absurd h htne) H1.out
              have AB := Lib.hid (abs_putN (r := r.tick) HT.out.rep.dist hf (f' := ⟨t, f.bv, f.bs⟩) (by rw [HNM.out]; exact HNZ.out) htne rfl hdist hnu)
              have z0 := hfz (n * 2) (by have : n < r.F.length := hfl; show n * 2 < r.F.length * 2; omega)
              have H2 := Lib.hid h2
              have R2 := Lib.hid r2
              have F2 := Lib.hid f2
              clear hfz h2 r2 f2 hdist hnu hf hgt htne
              go_wp2_with fail
              go_ret
              have hF : r.abs.renF s t = (r.abs.tick.ren s t, 0, ()) := by unfold A.renF; rw [HX.out, if_neg (fun c => c rfl)]
              rw [hF]
              refine ⟨_, m2, rfl, H2.out, N1.out.setCell _ _, _, R2.out, FT.out.trans F2.out, ?_, rfl, trivial⟩
              rw [AB.out, HNM.out]; rfl
            · have hb1 : (0 : Int) < (j : Int) := by omega
              have HX : Hid (r.abs.renX s t = -69) := Lib.hid (by
                obtain ⟨d, hgd⟩ : ∃ d, getR r.tick.F t = some d := by
                  rcases HFIj.out with ⟨h, _⟩ | ⟨_, _, d, _, _, h⟩
                  · exact absurd h hj0
                  · exact ⟨d, h⟩
                unfold A.renX
                rw [HXX.out, if_neg (fun c => c rfl), (abs_lookS' HG.out).1, HBN.out, HBT.out, HU.out, (abs_lookS' hgd).2]; rfl)
              clear hf
              go_wp2_with fail
              go_ret
              have hF : r.abs.renF s t = (r.abs.tick, -69, ()) := by unfold A.renF; rw [HX.out, if_pos (by decide)]
              rw [hF]
              exact ⟨_, _, rfl, H1.out, N1.out, HE69.out⟩
  · have HE := Lib.hid (HR.out.early x () (fun _ _ => True) trivial)
    have HNE := Lib.hid hx
    have hb : (x == 0) = false := by simpa using hx
    clear hx
    go_wp2_with fail
    go_ret
    have hX : r.abs.renX s t = x := by unfold A.renX; rw [HXX.out, if_pos HNE.out]
    have hF : r.abs.renF s t = (r.abs.tick, x, ()) := by unfold A.renF; rw [hX, if_pos HNE.out]
    rw [hF]
    exact ⟨_, _, rfl, H1.out, N1.out, HE.out⟩

end Go.Proofs.YtcdmdkgiabfbeaaGreatDoor
