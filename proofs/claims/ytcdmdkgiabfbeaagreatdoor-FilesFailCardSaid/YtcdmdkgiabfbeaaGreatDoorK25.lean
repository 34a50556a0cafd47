/-
  The document's Read. (printed by refr_gen.py)
-/
import Derived.Test.YtcdmdkgiabfbeaaGreatDoorK24
import Derived.Test.YtcdmdkgiabfbeaaGreatDoorK13
namespace Go.Proofs.YtcdmdkgiabfbeaaGreatDoor
open Go.RowKit

set_option maxHeartbeats 4000000 in
set_option maxRecDepth 100000 in
theorem read_ref (rb : Nat) (id : Int) (n : Int) (r : RG) (w : World) (m : Mem) (hm : Has w m) (hr : RR m rb r) (hn : r.n ≤ 999999) :
    Calls Tryz.prog 68 #[.pointer (some ⟨rb, 0, none⟩), .int .i64 id, .int .i64 n] w
      (AnsB w fun v m2 x => ROpR m rb r (A.withA r.abs id [] (readF (id - 1).toNat n)) (fun m2 bs => OutB m v m2 bs) m2 x) := by
  have HBG := Lib.hid (begun_ref rb r id w m hm hr hn)
  have HR := Lib.hid hr
  have HT := Lib.hid hr.tick
  have FT := Lib.hid (RR.frTick m rb r)
  clear hm hr
  go_enter Tryz.func68, Tryz.ntmps68
  go_wp2_with fail
  refine HBG.out.mono ?_
  rintro e w1 ⟨rfl, h1, n1⟩
  have H1 := Lib.hid h1
  have N1 := Lib.hid n1
  clear h1 n1 HBG
  rcases HR.out.begun id with ⟨hx, hW⟩ | ⟨hx, k, o, f, hid, hk1, hk2, ho, hof, hf, hfn, hW⟩
  · have HE := Lib.hid (HR.out.early (begX r.abs id) ([] : List UInt8) (fun m2 bs => OutB m (.slice none 0 0) m2 bs) ⟨Row.nil _ _ _, fun b hb => by cases hb⟩)
    have HW := Lib.hid hW
    clear hW
    obtain ⟨x, hxx⟩ : ∃ x, begX r.abs id = x := ⟨_, rfl⟩
    rw [hxx] at hx
    have HXX := Lib.hid hxx
    rw [hxx] at HE
    rw [hxx]
    clear hxx
    have hb : (x == 0) = false := by simpa using hx
    go_wp2_with fail
    refine bodyPost_ret (v := .tuple #[.slice none 0 0, .int .i64 x]) (by simp [results, Tryz.results68, go_sem]) rfl ?_
    rw [HW.out, HXX.out]
    exact ⟨_, _, _, rfl, H1.out, N1.out, HE.out⟩
  · subst hid
    obtain ⟨m1, hm1⟩ : ∃ m1, m.set rb (rstoreObj r.tick) = m1 := ⟨_, rfl⟩
    rw [hm1] at H1 HT FT
    clear hm1
    rw [hx]
    have HW := Lib.hid hW
    clear hW hx
    obtain ⟨ob, ocap, hov, hat⟩ := HT.out.rep.atO
    have hfz := HT.out.rep.frozO hov H1.out
    obtain ⟨c1, olt, hat⟩ := hat w1 H1.out
    obtain ⟨e0, e1, e2⟩ := hat k o ho
    have rlt := H1.out.lt HT.out.rep.store
    have HOV := Lib.hid hov
    clear hov hat
    obtain ⟨fb, fcap, hfv, hat0⟩ := HT.out.rep.at H1.out
    clear hat0
    obtain ⟨c0, flt, hatf⟩ := HT.out.rep.at' H1.out hfv
    have hfl : o.file < r.F.length := (List.getElem?_eq_some_iff.1 hf).1
    have hflen : r.F.length ≤ 101 + (r.n + 1) := HT.out.rep.flen
    obtain ⟨g0, g1⟩ := hatf o.file hfl
    change w1.cell? ⟨fb, o.file * 2, none⟩ = some (.string r.F[o.file].name) at g0
    change w1.cell? ⟨fb, o.file * 2 + 1, none⟩ = some r.F[o.file].bv at g1
    have hfe : r.F[o.file] = f := (List.getElem?_eq_some_iff.1 hf).2
    rw [hfe] at g0 g1
    obtain ⟨ba, bc, hbv, hbc⟩ := (HT.out.rep.bytes f (List.mem_of_getElem? hf)).lenV
    have hbl := HT.out.rep.bsz f (List.mem_of_getElem? hf)
    rw [hbv] at g1
    have HFV := Lib.hid hfv
    have HBV := Lib.hid hbv
    change w1.cell? ⟨rb, 0, none⟩ = some (.slice (some ⟨fb, 0, none⟩) r.F.length fcap) at c0
    clear hatf hfe hfv hbv
    have SO : Hid (∀ p : Nat, p ≤ 262144 → ∀ wx, Has wx m1 → ∃ m2, Has (wx.setCell ⟨ob, k * 3 + 2, none⟩ (.int .i64 p)) m2 ∧ RR m2 rb { r.tick with O := r.tick.O.set k { o with pos := p } } ∧ Fr m1 m2 (RFP rb r.tick) (RFP rb { r.tick with O := r.tick.O.set k { o with pos := p } })) :=
      Lib.hid (fun p hp wx hx => HT.out.setO HOV.out (o := o) ho hk1 { o with pos := p } 2 [.int .i64 p] (Nat.le_refl 3) rfl (.inr ⟨f, hf, hfn⟩) hp hx)
    have AB : Hid (∀ p : Nat, ({ r.tick with O := r.tick.O.set k { o with pos := p } } : RG).abs = r.abs.tick.setH (k - 1) (some (f.name, o.mode, p))) := Lib.hid (fun p => by
      have h1 := abs_putO (r := r.tick) (k := k - 1) { o with pos := p } (by rw [show k - 1 + 1 = k from by omega]; exact (List.getElem?_eq_some_iff.1 ho).1)
      rw [show k - 1 + 1 = k from by omega] at h1
      rw [h1]
      unfold roAbs
      rw [if_neg (show ¬ ({ o with pos := p } : RO).file = 0 from hof)]
      show A.setH _ _ ((r.F[o.file]?).map _) = _
      rw [hf]; rfl)
    have SAME : Hid (r.abs.tick.setH (k - 1) (some (f.name, o.mode, o.pos)) = r.abs.tick) := Lib.hid (abs_setSame (by
      show (r.O[k - 1 + 1]?).bind (roAbs r.F) = _
      rw [show k - 1 + 1 = k from by omega, ho]
      show roAbs r.F o = _
      unfold roAbs
      rw [if_neg hof, hf]; rfl))
    have BS := Lib.hid (HR.out.bytesOf hf hfn)
    have ROWB := Lib.hid (HT.out.rep.bytes f (List.mem_of_getElem? hf))
    have HFM := Lib.hid (List.mem_of_getElem? hf)
    have HO := Lib.hid ho
    have HF := Lib.hid hf
    have HFN := Lib.hid hfn
    obtain ⟨fl, hfe⟩ : ∃ fl, o.file = fl := ⟨_, rfl⟩
    obtain ⟨md, hmd⟩ : ∃ md, o.mode = md := ⟨_, rfl⟩
    obtain ⟨ps, hps⟩ : ∃ ps, o.pos = ps := ⟨_, rfl⟩
    have hpl := HT.out.rep.opos o (List.mem_of_getElem? ho)
    rw [hfe] at HF
    simp only [hfe, hmd, hps] at *
    have HFE := Lib.hid hfe
    have HMD := Lib.hid hmd
    have HPS := Lib.hid hps
    clear ho hf hfn hfe hmd hps
    have z2 := hfz (k * 3 + 2) (by omega)
    clear hfz g0
    by_cases hm2 : md = 2
    · have hmb : (md == 2) = true := by simpa using hm2
      go_wp2_with fail
      refine bodyPost_ret (v := .tuple #[.slice none 0 0, .int .i64 (-20)]) (by simp [results, Tryz.results68, go_sem]) rfl ?_
      rw [HW.out]
      have hF : readF ((k : Int) - 1).toNat n r.abs.tick (f.name, md, ps) r.now = (r.abs.tick, -20, []) := by unfold readF; rw [if_pos (show (f.name, md, ps).2.1 = 2 from hm2)]
      rw [hF]
      exact ⟨_, _, _, rfl, H1.out, N1.out, r.tick, HT.out, FT.out, rfl, rfl, Row.nil _ _ _, fun b hb => by cases hb⟩
    · have hmb : (md == 2) = false := by simpa using hm2
      have hkk : ((k : Int) - 1).toNat = k - 1 := by omega
      have HKK := Lib.hid hkk
      clear hkk
      go_wp2_with fail
      go_quiet (fail)
      go_wp2_with fail
      refine (most_ref rb n r.tick _ m1 (H1.out.drewN _) HT.out.rep).mono ?_
      rintro e wy ⟨rfl, hwy⟩
      rw [hwy]
      clear hwy
      obtain ⟨Q, hQ⟩ : ∃ Q : Nat, mostI n r.tick.go.2.2 = Q := ⟨(mostI n r.tick.go.2.2).toNat, by have := (mostI_nat n r.tick.go.2.2).1; omega⟩
      have RL := Lib.hid (readL_ref (md := md) (ps := ps) BS.out hQ)
      rw [hQ]
      clear hQ
      have HRF : Hid (readF ((k : Int) - 1).toNat n r.abs.tick (f.name, md, ps) r.now = (r.abs.tick.setH (k - 1) (some (f.name, md, ps + ((f.bs.drop ps).take Q).length)), 0, (f.bs.drop ps).take Q)) := Lib.hid (by
        unfold readF
        rw [if_neg (show ¬ (f.name, md, ps).2.1 = 2 from hm2), RL.out, HKK.out])
      obtain ⟨L, hL⟩ : ∃ L, f.bs.length = L := ⟨_, rfl⟩
      rw [hL] at hbl hbc g1 ⊢
      have HL := Lib.hid hL
      clear hL
      by_cases hpL : L < ps
      · go_wp2_with fail
        refine bodyPost_ret (v := .tuple #[.slice none 0 0, .int .i64 0]) (by simp [results, Tryz.results68, go_sem]) rfl ?_
        rw [HW.out, HRF.out]
        have hd : (f.bs.drop ps).take Q = [] := by rw [List.drop_eq_nil_of_le (by rw [HL.out]; omega)]; simp
        rw [hd]
        refine ⟨_, _, _, rfl, H1.out.drewN _, N1.out.drewN _, r.tick, HT.out, FT.out, ?_, rfl, Row.nil _ _ _, fun b hb => by cases hb⟩
        exact SAME.out.symm
      · obtain ⟨d, rfl⟩ : ∃ d, L = ps + d := ⟨L - ps, by omega⟩
        by_cases hQd : d < Q
        · have HBS : Hid ((f.bs.drop ps).take Q = (f.bs.drop ps).take d) := Lib.hid (by
            have hl : (f.bs.drop ps).length = d := by rw [List.length_drop, HL.out]; omega
            try rfl
            try rw [List.take_of_length_le (by omega), List.take_of_length_le (by omega)])
          have hrowB := ROWB.out
          rw [HBV.out, HL.out] at hrowB
          obtain ⟨_, ⟨hx1, hx2⟩ | ⟨bg, bcap, _, _, hx1, _, _, hbl', _⟩⟩ := hrowB
          · simp only [Value.slice.injEq] at hx1
            obtain ⟨rfl, _, rfl⟩ := hx1
            obtain rfl : ps = 0 := by omega
            obtain rfl : d = 0 := by omega
            obtain ⟨m3, h3, r3, f3⟩ := SO.out (0 + 0) (by omega) _ (H1.out.drewN nq)
            have hlen : ((f.bs.drop 0).take 0).length = 0 := by rw [List.length_take, List.length_drop, HL.out]; omega
            have hrow3 := r3.rep.bytes f HFM.out
            rw [HBV.out, HL.out] at hrow3
            have hy : WindK m3 (.slice none 0 0) ((f.bs.drop 0).take 0).length (((f.bs.drop 0).take 0).map byteV) := by
              rw [hlen]
              exact .inl ⟨rfl, rfl⟩
            obtain ⟨v', w4, m4, hrun, n4, h4, l4, o4⟩ := run_app_bytes h3 _ _ hy (by rw [hlen]; omega)
            have H4 := Lib.hid h4
            have N4 := Lib.hid (((N1.out.drewN nq).setCell _ _).trans n4)
            have R4 := Lib.hid (r3.le l4)
            have F4 := Lib.hid (FT.out.trans (f3.le l4))
            have O4 : Hid (OutB m v' m4 ((f.bs.drop 0).take 0)) := Lib.hid ⟨o4.1, fun b hb => RR.none_ahead r3 (FT.out.trans f3) (fun b hb => hb) (o4.2 b hb)⟩
            have HLEN := Lib.hid hlen
            clear h3 r3 f3 n4 h4 l4 o4 hlen hrow3 hy 
            go_wp2_with (at_builtin; refine wpList_b2 rfl .append Builtin.append_ (fun _ _ _ _ => rfl) _ _ _ _ rfl rfl rfl hrun ?_)
            refine bodyPost_ret (v := .tuple #[v', .int .i64 0]) (by simp [results, Tryz.results68, go_sem]) rfl ?_
            rw [HW.out, HRF.out]
            try rw [HBS.out]
            rw [HLEN.out]
            exact ⟨_, _, m4, rfl, H4.out, N4.out, _, R4.out, F4.out, AB.out _, rfl, O4.out⟩
          · simp only [Value.slice.injEq] at hx1
            obtain ⟨rfl, _, rfl⟩ := hx1
            have wk1 : (ps : Int) + (d : Int) - (ps : Int) = d := by omega
            have htn : ((ps : Int) + (d : Int)).toNat = ps + d := by omega
            have htd : ps + d - ps = d := by omega
            by_cases hbp : bc = ps
            · obtain rfl : bc = ps := hbp
              obtain rfl : d = 0 := by omega
              skip
              obtain ⟨m3, h3, r3, f3⟩ := SO.out (bc + 0) (by omega) _ (H1.out.drewN nq)
              have hlen : ((f.bs.drop bc).take 0).length = 0 := by rw [List.length_take, List.length_drop, HL.out]; omega
              have hrow3 := r3.rep.bytes f HFM.out
              rw [HBV.out, HL.out] at hrow3
              have hy : WindK m3 (.slice (some ⟨bg, 0, none⟩) 0 0) ((f.bs.drop bc).take 0).length (((f.bs.drop bc).take 0).map byteV) := by
                rw [hlen]
                exact .inr ⟨_, _, rfl, fun h => by omega⟩
              obtain ⟨v', w4, m4, hrun, n4, h4, l4, o4⟩ := run_app_bytes h3 _ _ hy (by rw [hlen]; omega)
              have H4 := Lib.hid h4
              have N4 := Lib.hid (((N1.out.drewN nq).setCell _ _).trans n4)
              have R4 := Lib.hid (r3.le l4)
              have F4 := Lib.hid (FT.out.trans (f3.le l4))
              have O4 : Hid (OutB m v' m4 ((f.bs.drop bc).take 0)) := Lib.hid ⟨o4.1, fun b hb => RR.none_ahead r3 (FT.out.trans f3) (fun b hb => hb) (o4.2 b hb)⟩
              have HLEN := Lib.hid hlen
              clear h3 r3 f3 n4 h4 l4 o4 hlen hrow3 hy 
              go_wp2_with (at_builtin; refine wpList_b2 rfl .append Builtin.append_ (fun _ _ _ _ => rfl) _ _ _ _ rfl rfl rfl hrun ?_)
              refine bodyPost_ret (v := .tuple #[v', .int .i64 0]) (by simp [results, Tryz.results68, go_sem]) rfl ?_
              rw [HW.out, HRF.out]
              try rw [HBS.out]
              rw [HLEN.out]
              exact ⟨_, _, m4, rfl, H4.out, N4.out, _, R4.out, F4.out, AB.out _, rfl, O4.out⟩
            · have hbn : ¬ ps = bc := fun e => hbp e.symm
              obtain ⟨m3, h3, r3, f3⟩ := SO.out (ps + d) (by omega) _ (H1.out.drewN nq)
              have hlen : ((f.bs.drop ps).take d).length = d := by rw [List.length_take, List.length_drop, HL.out]; omega
              have hrow3 := r3.rep.bytes f HFM.out
              rw [HBV.out, HL.out] at hrow3
              have hy : WindK m3 (.slice (some ⟨bg, ps, none⟩) d (bc - ps)) ((f.bs.drop ps).take d).length (((f.bs.drop ps).take d).map byteV) := by
                rw [hlen]
                rcases Nat.eq_zero_or_pos d with h0 | h0
                · exact .inr ⟨_, _, rfl, fun h => by omega⟩
                · obtain ⟨g, h1, h2⟩ := hrow3.win (c := bc - ps) (show ps + d ≤ ps + d by omega) h0
                  obtain rfl : bg = g := by simpa using h1
                  rw [List.map_take, List.map_drop]
                  exact h2
              obtain ⟨v', w4, m4, hrun, n4, h4, l4, o4⟩ := run_app_bytes h3 _ _ hy (by rw [hlen]; omega)
              have H4 := Lib.hid h4
              have N4 := Lib.hid (((N1.out.drewN nq).setCell _ _).trans n4)
              have R4 := Lib.hid (r3.le l4)
              have F4 := Lib.hid (FT.out.trans (f3.le l4))
              have O4 : Hid (OutB m v' m4 ((f.bs.drop ps).take d)) := Lib.hid ⟨o4.1, fun b hb => RR.none_ahead r3 (FT.out.trans f3) (fun b hb => hb) (o4.2 b hb)⟩
              have HLEN := Lib.hid hlen
              clear h3 r3 f3 n4 h4 l4 o4 hlen hrow3 hy 
              rw [Int.natCast_add] at hrun
              go_wp2_with (at_builtin; refine wpList_b2 rfl .append Builtin.append_ (fun _ _ _ _ => rfl) _ _ _ _ rfl rfl rfl hrun ?_)
              refine bodyPost_ret (v := .tuple #[v', .int .i64 0]) (by simp [results, Tryz.results68, go_sem]) rfl ?_
              rw [HW.out, HRF.out]
              try rw [HBS.out]
              rw [HLEN.out]
              exact ⟨_, _, m4, rfl, H4.out, N4.out, _, R4.out, F4.out, AB.out _, rfl, O4.out⟩
        · have HBS : Hid ((f.bs.drop ps).take Q = (f.bs.drop ps).take Q) := Lib.hid (by
            have hl : (f.bs.drop ps).length = d := by rw [List.length_drop, HL.out]; omega
            try rfl
            try rw [List.take_of_length_le (by omega), List.take_of_length_le (by omega)])
          have hrowB := ROWB.out
          rw [HBV.out, HL.out] at hrowB
          obtain ⟨_, ⟨hx1, hx2⟩ | ⟨bg, bcap, _, _, hx1, _, _, hbl', _⟩⟩ := hrowB
          · simp only [Value.slice.injEq] at hx1
            obtain ⟨rfl, _, rfl⟩ := hx1
            obtain rfl : ps = 0 := by omega
            obtain rfl : d = 0 := by omega
            obtain rfl : Q = 0 := by omega
            obtain ⟨m3, h3, r3, f3⟩ := SO.out (0 + 0) (by omega) _ (H1.out.drewN nq)
            have hlen : ((f.bs.drop 0).take 0).length = 0 := by rw [List.length_take, List.length_drop, HL.out]; omega
            have hrow3 := r3.rep.bytes f HFM.out
            rw [HBV.out, HL.out] at hrow3
            have hy : WindK m3 (.slice none 0 0) ((f.bs.drop 0).take 0).length (((f.bs.drop 0).take 0).map byteV) := by
              rw [hlen]
              exact .inl ⟨rfl, rfl⟩
            obtain ⟨v', w4, m4, hrun, n4, h4, l4, o4⟩ := run_app_bytes h3 _ _ hy (by rw [hlen]; omega)
            have H4 := Lib.hid h4
            have N4 := Lib.hid (((N1.out.drewN nq).setCell _ _).trans n4)
            have R4 := Lib.hid (r3.le l4)
            have F4 := Lib.hid (FT.out.trans (f3.le l4))
            have O4 : Hid (OutB m v' m4 ((f.bs.drop 0).take 0)) := Lib.hid ⟨o4.1, fun b hb => RR.none_ahead r3 (FT.out.trans f3) (fun b hb => hb) (o4.2 b hb)⟩
            have HLEN := Lib.hid hlen
            clear h3 r3 f3 n4 h4 l4 o4 hlen hrow3 hy 
            go_wp2_with (at_builtin; refine wpList_b2 rfl .append Builtin.append_ (fun _ _ _ _ => rfl) _ _ _ _ rfl rfl rfl hrun ?_)
            refine bodyPost_ret (v := .tuple #[v', .int .i64 0]) (by simp [results, Tryz.results68, go_sem]) rfl ?_
            rw [HW.out, HRF.out]
            try rw [HBS.out]
            rw [HLEN.out]
            exact ⟨_, _, m4, rfl, H4.out, N4.out, _, R4.out, F4.out, AB.out _, rfl, O4.out⟩
          · simp only [Value.slice.injEq] at hx1
            obtain ⟨rfl, _, rfl⟩ := hx1
            have wk1 : (ps : Int) + (d : Int) - (ps : Int) = d := by omega
            have htn : ((ps : Int) + (Q : Int)).toNat = ps + Q := by omega
            have htd : ps + Q - ps = Q := by omega
            by_cases hbp : bc = ps
            · obtain rfl : bc = ps := hbp
              obtain rfl : d = 0 := by omega
              obtain rfl : Q = 0 := by omega
              obtain ⟨m3, h3, r3, f3⟩ := SO.out (bc + 0) (by omega) _ (H1.out.drewN nq)
              have hlen : ((f.bs.drop bc).take 0).length = 0 := by rw [List.length_take, List.length_drop, HL.out]; omega
              have hrow3 := r3.rep.bytes f HFM.out
              rw [HBV.out, HL.out] at hrow3
              have hy : WindK m3 (.slice (some ⟨bg, 0, none⟩) 0 0) ((f.bs.drop bc).take 0).length (((f.bs.drop bc).take 0).map byteV) := by
                rw [hlen]
                exact .inr ⟨_, _, rfl, fun h => by omega⟩
              obtain ⟨v', w4, m4, hrun, n4, h4, l4, o4⟩ := run_app_bytes h3 _ _ hy (by rw [hlen]; omega)
              have H4 := Lib.hid h4
              have N4 := Lib.hid (((N1.out.drewN nq).setCell _ _).trans n4)
              have R4 := Lib.hid (r3.le l4)
              have F4 := Lib.hid (FT.out.trans (f3.le l4))
              have O4 : Hid (OutB m v' m4 ((f.bs.drop bc).take 0)) := Lib.hid ⟨o4.1, fun b hb => RR.none_ahead r3 (FT.out.trans f3) (fun b hb => hb) (o4.2 b hb)⟩
              have HLEN := Lib.hid hlen
              clear h3 r3 f3 n4 h4 l4 o4 hlen hrow3 hy 
              go_wp2_with (at_builtin; refine wpList_b2 rfl .append Builtin.append_ (fun _ _ _ _ => rfl) _ _ _ _ rfl rfl rfl hrun ?_)
              refine bodyPost_ret (v := .tuple #[v', .int .i64 0]) (by simp [results, Tryz.results68, go_sem]) rfl ?_
              rw [HW.out, HRF.out]
              try rw [HBS.out]
              rw [HLEN.out]
              exact ⟨_, _, m4, rfl, H4.out, N4.out, _, R4.out, F4.out, AB.out _, rfl, O4.out⟩
            · have hbn : ¬ ps = bc := fun e => hbp e.symm
              obtain ⟨m3, h3, r3, f3⟩ := SO.out (ps + Q) (by omega) _ (H1.out.drewN nq)
              have hlen : ((f.bs.drop ps).take Q).length = Q := by rw [List.length_take, List.length_drop, HL.out]; omega
              have hrow3 := r3.rep.bytes f HFM.out
              rw [HBV.out, HL.out] at hrow3
              have hy : WindK m3 (.slice (some ⟨bg, ps, none⟩) Q (bc - ps)) ((f.bs.drop ps).take Q).length (((f.bs.drop ps).take Q).map byteV) := by
                rw [hlen]
                rcases Nat.eq_zero_or_pos Q with h0 | h0
                · exact .inr ⟨_, _, rfl, fun h => by omega⟩
                · obtain ⟨g, h1, h2⟩ := hrow3.win (c := bc - ps) (show ps + Q ≤ ps + d by omega) h0
                  obtain rfl : bg = g := by simpa using h1
                  rw [List.map_take, List.map_drop]
                  exact h2
              obtain ⟨v', w4, m4, hrun, n4, h4, l4, o4⟩ := run_app_bytes h3 _ _ hy (by rw [hlen]; omega)
              have H4 := Lib.hid h4
              have N4 := Lib.hid (((N1.out.drewN nq).setCell _ _).trans n4)
              have R4 := Lib.hid (r3.le l4)
              have F4 := Lib.hid (FT.out.trans (f3.le l4))
              have O4 : Hid (OutB m v' m4 ((f.bs.drop ps).take Q)) := Lib.hid ⟨o4.1, fun b hb => RR.none_ahead r3 (FT.out.trans f3) (fun b hb => hb) (o4.2 b hb)⟩
              have HLEN := Lib.hid hlen
              clear h3 r3 f3 n4 h4 l4 o4 hlen hrow3 hy 
              rw [Int.natCast_add] at hrun
              go_wp2_with (at_builtin; refine wpList_b2 rfl .append Builtin.append_ (fun _ _ _ _ => rfl) _ _ _ _ rfl rfl rfl hrun ?_)
              refine bodyPost_ret (v := .tuple #[v', .int .i64 0]) (by simp [results, Tryz.results68, go_sem]) rfl ?_
              rw [HW.out, HRF.out]
              try rw [HBS.out]
              rw [HLEN.out]
              exact ⟨_, _, m4, rfl, H4.out, N4.out, _, R4.out, F4.out, AB.out _, rfl, O4.out⟩
end Go.Proofs.YtcdmdkgiabfbeaaGreatDoor

/-
  The document's Line. (printed by refl_gen.py)
-/
namespace Go.Proofs.YtcdmdkgiabfbeaaGreatDoor
open Go.RowKit

theorem indexByte_at : ∀ (l : List UInt8) (j : Nat), l[j]? = some 10 → (∀ i, i < j → l[i]? ≠ some 10) → Lib.indexByte l 10 = j
  | [], _, h, _ => by simp at h
  | b :: l, 0, h, _ => by
    have hb : b = 10 := by simpa using h
    subst hb; simp [Lib.indexByte]
  | b :: l, j + 1, h, hn => by
    have hb : ¬ b = 10 := fun e => hn 0 (by omega) (by rw [e]; rfl)
    have ih := indexByte_at l j (by simpa using h) (fun i hi => by have := hn (i + 1) (by omega); simpa using this)
    simp only [Lib.indexByte]
    rw [if_neg (by simpa using hb), ih, if_neg (by rw [beq_iff_eq]; omega)]
    omega
theorem indexByte_no : ∀ (l : List UInt8), (∀ i : Nat, l[i]? ≠ some 10) → Lib.indexByte l 10 = -1
  | [], _ => rfl
  | b :: l, hn => by
    have hb : ¬ b = 10 := fun e => hn 0 (by rw [e]; rfl)
    have ih := indexByte_no l (fun i => by have := hn (i + 1); simpa using this)
    simp only [Lib.indexByte]
    rw [if_neg (by simpa using hb), ih]; rfl

/-- Where the loop stops. -/
theorem lineF_ref {r : RG} {nm : ByteArray} {md : Int} {ps : Nat} {n : Int} {bs : List UInt8} {Q : Nat} (hb : r.abs.bytes nm = bs) (hQ : mostI n r.tick.go.2.2 = Q) (hmd : ¬ md = 2) (hlt : ps < bs.length) (i j b : Nat) (hj : ps + j ≤ bs.length) (hjQ : j ≤ Q)
    (hn : ∀ i, i < j → (bs.drop ps)[i]? ≠ some 10) (stop : ((ps + j = bs.length ∨ j = Q) ∧ b = 0) ∨ (ps + j < bs.length ∧ j < Q ∧ (bs.drop ps)[j]? = some 10 ∧ b = 1)) :
    lineF i n r.abs.tick (nm, md, ps) r.now = (r.abs.tick.setH i (some (nm, md, ps + j + b)), 0, ((bs.drop ps).take j, true)) := by
  unfold lineF
  rw [if_neg (show ¬ (nm, md, ps).2.1 = 2 from hmd), if_neg (show ¬ (r.abs.tick.bytes (nm, md, ps).fst).length ≤ (nm, md, ps).snd.snd from by show ¬ (r.abs.bytes nm).length ≤ ps; rw [hb]; omega), readL_ref hb hQ]
  rcases stop with ⟨h1, rfl⟩ | ⟨h1, h2, h3, rfl⟩
  · have hl : (bs.drop ps).take Q = (bs.drop ps).take j := by
      rcases h1 with h1 | h1
      · rw [List.take_of_length_le (by simp; omega), List.take_of_length_le (by simp; omega)]
      · rw [h1]
    have hx : Lib.indexByte ((bs.drop ps).take j) 10 = -1 := indexByte_no _ fun i => by
      rw [List.getElem?_take]
      split
      · exact hn i (by assumption)
      · simp
    rw [hl, hx, if_neg (by decide), show ((bs.drop ps).take j).length = j from by simp; omega]
    rfl
  · have hx : Lib.indexByte ((bs.drop ps).take Q) 10 = j := indexByte_at _ j (by rw [List.getElem?_take, if_pos h2]; exact h3) fun i hi => by
      rw [List.getElem?_take, if_pos (by omega)]; exact hn i hi
    rw [hx, if_pos (by omega), List.take_take, show ((j : Int)).toNat = j from by omega, Nat.min_eq_left (by omega), show (nm, md, ps).2.2 + 1 + j = ps + j + 1 from by show ps + 1 + j = _; omega]

set_option maxHeartbeats 4000000 in
set_option maxRecDepth 100000 in
theorem line_ref (rb : Nat) (id : Int) (n : Int) (r : RG) (w : World) (m : Mem) (hm : Has w m) (hr : RR m rb r) (hn : r.n ≤ 999999) :
    Calls Tryz.prog 69 #[.pointer (some ⟨rb, 0, none⟩), .int .i64 id, .int .i64 n] w
      (AnsL w fun v b m2 x => ROpR m rb r (A.withA r.abs id ([], false) (lineF (id - 1).toNat n)) (fun m2 y => OutB m v m2 y.1 ∧ b = y.2) m2 x) := by
  have HBG := Lib.hid (begun_ref rb r id w m hm hr hn)
  have HR := Lib.hid hr
  have HT := Lib.hid hr.tick
  have FT := Lib.hid (RR.frTick m rb r)
  clear hm hr
  go_enter Tryz.func69, Tryz.ntmps69
  go_wp2_with fail
  refine HBG.out.mono ?_
  rintro e w1 ⟨rfl, h1, n1⟩
  have H1 := Lib.hid h1
  have N1 := Lib.hid n1
  clear h1 n1 HBG
  rcases HR.out.begun id with ⟨hx, hW⟩ | ⟨hx, k, o, f, hid, hk1, hk2, ho, hof, hf, hfn, hW⟩
  · have HE := Lib.hid (HR.out.early (begX r.abs id) (([], false) : List UInt8 × Bool) (fun m2 (y : List UInt8 × Bool) => OutB m (.slice none 0 0) m2 y.1 ∧ false = y.2) ⟨⟨Row.nil _ _ _, fun b hb => by cases hb⟩, rfl⟩)
    have HW := Lib.hid hW
    clear hW
    obtain ⟨x, hxx⟩ : ∃ x, begX r.abs id = x := ⟨_, rfl⟩
    rw [hxx] at hx
    have HXX := Lib.hid hxx
    rw [hxx] at HE
    rw [hxx]
    clear hxx
    have hb : (x == 0) = false := by simpa using hx
    go_wp2_with fail
    refine bodyPost_ret (v := .tuple #[.slice none 0 0, .bool false, .int .i64 x]) (by simp [results, Tryz.results69, go_sem]) rfl ?_
    rw [HW.out, HXX.out]
    exact ⟨_, _, _, _, rfl, H1.out, N1.out, HE.out⟩
  · subst hid
    obtain ⟨m1, hm1⟩ : ∃ m1, m.set rb (rstoreObj r.tick) = m1 := ⟨_, rfl⟩
    rw [hm1] at H1 HT FT
    clear hm1
    rw [hx]
    have HW := Lib.hid hW
    clear hW hx
    obtain ⟨ob, ocap, hov, hat⟩ := HT.out.rep.atO
    have hat0 := hat
    have hfz := HT.out.rep.frozO hov H1.out
    obtain ⟨c1, olt, hat⟩ := hat w1 H1.out
    obtain ⟨e0, e1, e2⟩ := hat k o ho
    have rlt := H1.out.lt HT.out.rep.store
    have HOV := Lib.hid hov
    have HAT := Lib.hid hat0
    clear hov hat hat0
    obtain ⟨fb, fcap, hfv, hat00⟩ := HT.out.rep.at H1.out
    clear hat00
    obtain ⟨c0, flt, hatf⟩ := HT.out.rep.at' H1.out hfv
    have hfl : o.file < r.F.length := (List.getElem?_eq_some_iff.1 hf).1
    have hflen : r.F.length ≤ 101 + (r.n + 1) := HT.out.rep.flen
    obtain ⟨g0, g1⟩ := hatf o.file hfl
    change w1.cell? ⟨fb, o.file * 2, none⟩ = some (.string r.F[o.file].name) at g0
    change w1.cell? ⟨fb, o.file * 2 + 1, none⟩ = some r.F[o.file].bv at g1
    have hfe : r.F[o.file] = f := (List.getElem?_eq_some_iff.1 hf).2
    rw [hfe] at g0 g1
    obtain ⟨ba, bc, hbv, hbc⟩ := (HT.out.rep.bytes f (List.mem_of_getElem? hf)).lenV
    have hbl := HT.out.rep.bsz f (List.mem_of_getElem? hf)
    rw [hbv] at g1
    have HFV := Lib.hid hfv
    have HBV := Lib.hid hbv
    change w1.cell? ⟨rb, 0, none⟩ = some (.slice (some ⟨fb, 0, none⟩) r.F.length fcap) at c0
    clear hatf hfe hfv hbv
    have SO : Hid (∀ p : Nat, p ≤ 262144 → ∀ mr, m1.le mr → ∀ wx, Has wx mr → ∃ m2, Has (wx.setCell ⟨ob, k * 3 + 2, none⟩ (.int .i64 p)) m2 ∧ RR m2 rb { r.tick with O := r.tick.O.set k { o with pos := p } } ∧ Fr mr m2 (RFP rb r.tick) (RFP rb { r.tick with O := r.tick.O.set k { o with pos := p } })) :=
      Lib.hid (fun p hp mr l wx hx => (HT.out.le l).setO HOV.out (o := o) ho hk1 { o with pos := p } 2 [.int .i64 p] (Nat.le_refl 3) rfl (.inr ⟨f, hf, hfn⟩) hp hx)
    have CW : Hid (∀ mr, m1.le mr → ∀ wx, Has wx mr → wx.cell? ⟨rb, 1, none⟩ = some (.slice (some ⟨ob, 0, none⟩) 33 ocap) ∧ ob < wx.heap.size ∧ rb < wx.heap.size ∧ wx.frozen? ⟨ob, k * 3 + 2, none⟩ = false ∧ ∃ v, wx.cell? ⟨ob, k * 3 + 2, none⟩ = some v) := Lib.hid (fun mr l wx hx => by
      obtain ⟨a1, a2, a3⟩ := HAT.out wx (hx.le l)
      exact ⟨a1, a2, hx.lt (l _ _ HT.out.rep.store), HT.out.rep.frozO HOV.out (hx.le l) _ (by omega), _, (a3 k o ho).2.2⟩)
    have AB : Hid (∀ p : Nat, ({ r.tick with O := r.tick.O.set k { o with pos := p } } : RG).abs = r.abs.tick.setH (k - 1) (some (f.name, o.mode, p))) := Lib.hid (fun p => by
      have h1 := abs_putO (r := r.tick) (k := k - 1) { o with pos := p } (by rw [show k - 1 + 1 = k from by omega]; exact (List.getElem?_eq_some_iff.1 ho).1)
      rw [show k - 1 + 1 = k from by omega] at h1
      rw [h1]
      unfold roAbs
      rw [if_neg (show ¬ ({ o with pos := p } : RO).file = 0 from hof)]
      show A.setH _ _ ((r.F[o.file]?).map _) = _
      rw [hf]; rfl)
    have BS := Lib.hid (HR.out.bytesOf hf hfn)
    have ROWB := Lib.hid (HT.out.rep.bytes f (List.mem_of_getElem? hf))
    have HO := Lib.hid ho
    have HF := Lib.hid hf
    have HFN := Lib.hid hfn
    obtain ⟨fl, hfe⟩ : ∃ fl, o.file = fl := ⟨_, rfl⟩
    obtain ⟨md, hmd⟩ : ∃ md, o.mode = md := ⟨_, rfl⟩
    obtain ⟨ps, hps⟩ : ∃ ps, o.pos = ps := ⟨_, rfl⟩
    have hpl := HT.out.rep.opos o (List.mem_of_getElem? ho)
    rw [hfe] at HF
    simp only [hfe, hmd, hps] at *
    have HFE := Lib.hid hfe
    have HMD := Lib.hid hmd
    have HPS := Lib.hid hps
    clear ho hf hfn hfe hmd hps
    clear hfz g0
    by_cases hm2 : md = 2
    · have hmb : (md == 2) = true := by simpa using hm2
      go_wp2_with fail
      refine bodyPost_ret (v := .tuple #[.slice none 0 0, .bool false, .int .i64 (-20)]) (by simp [results, Tryz.results69, go_sem]) rfl ?_
      rw [HW.out]
      have hF : lineF ((k : Int) - 1).toNat n r.abs.tick (f.name, md, ps) r.now = (r.abs.tick, -20, ([], false)) := by unfold lineF; rw [if_pos (show (f.name, md, ps).2.1 = 2 from hm2)]
      rw [hF]
      exact ⟨_, _, _, _, rfl, H1.out, N1.out, r.tick, HT.out, FT.out, rfl, rfl, ⟨Row.nil _ _ _, fun b hb => by cases hb⟩, rfl⟩
    · have hmb : (md == 2) = false := by simpa using hm2
      have hkk : ((k : Int) - 1).toNat = k - 1 := by omega
      have HKK := Lib.hid hkk
      clear hkk
      go_wp2_with fail
      go_quiet (fail)
      go_wp2_with fail
      refine (most_ref rb n r.tick _ m1 (H1.out.drewN _) HT.out.rep).mono ?_
      rintro e wy ⟨rfl, hwy⟩
      rw [hwy]
      clear hwy
      obtain ⟨Q, hQ⟩ : ∃ Q : Nat, mostI n r.tick.go.2.2 = Q := ⟨(mostI n r.tick.go.2.2).toNat, by have := (mostI_nat n r.tick.go.2.2).1; omega⟩
      obtain ⟨L, hL⟩ : ∃ L, f.bs.length = L := ⟨_, rfl⟩
      have LF := Lib.hid (fun (hlt : ps < f.bs.length) (j b : Nat) => lineF_ref (md := md) BS.out hQ hm2 hlt (k - 1) j b)
      rw [hL] at hbl hbc g1 LF ⊢
      rw [hQ]
      have HL := Lib.hid hL
      clear hL hQ
      by_cases hpL : L ≤ ps
      · go_wp2_with fail
        refine bodyPost_ret (v := .tuple #[.slice none 0 0, .bool false, .int .i64 0]) (by simp [results, Tryz.results69, go_sem]) rfl ?_
        rw [HW.out]
        have hF : lineF ((k : Int) - 1).toNat n r.abs.tick (f.name, md, ps) r.now = (r.abs.tick, 0, ([], false)) := by
          unfold lineF
          rw [if_neg (show ¬ (f.name, md, ps).2.1 = 2 from hm2), if_pos (show (r.abs.tick.bytes (f.name, md, ps).fst).length ≤ (f.name, md, ps).snd.snd from by show (r.abs.bytes f.name).length ≤ ps; rw [BS.out, HL.out]; exact hpL)]
        rw [hF]
        exact ⟨_, _, _, _, rfl, H1.out.drewN _, N1.out.drewN _, r.tick, HT.out, FT.out, rfl, rfl, ⟨Row.nil _ _ _, fun b hb => by cases hb⟩, rfl⟩
      · have B0 : Hid (BW m1 (fun _ => False) m1 (.slice none 0 0) ((f.bs.drop ps).take 0)) := Lib.hid ⟨fun b o h _ => h, Row.nil _ _ _, fun b hb => by cases hb⟩
        have H1d := Lib.hid (H1.out.drewN nq)
        have N1d := Lib.hid (N1.out.drewN nq)
        obtain ⟨gb, hgb⟩ : ∃ gb, ba = some ⟨gb, 0, none⟩ := by
          have h1 := ROWB.out
          rw [HBV.out, HL.out] at h1
          obtain ⟨_, ⟨h2, h3⟩ | ⟨gb, _, _, _, h2, _⟩⟩ := h1
          · omega
          · simp only [Value.slice.injEq] at h2; exact ⟨gb, h2.1⟩
        subst hgb
        have BYTE : Hid (∀ mr, m1.le mr → ∀ wx, Has wx mr → ∀ p x, f.bs[p]? = some x → wx.cell? ⟨gb, p, none⟩ = some (byteV x)) := Lib.hid (fun mr l wx hx p x hp => by
          have h1 := ROWB.out
          rw [HBV.out] at h1
          have hpl := (List.getElem?_eq_some_iff.1 hp).1
          rw [h1.cell (hx.le l) (by omega), List.getElem?_map, hp]; rfl)
        go_wp2_with fail
        clear g1 c0 c1 olt rlt flt e1 e2
        go_loopw [11, 12] (fun at' v wr => ∃ (p j : Nat) (xa : Option Addr) (xc : Nat), p = ps + j ∧ at' = .int .i64 p ∧ v = .slice xa j xc ∧ p ≤ L ∧ j ≤ Q ∧ Hid (∃ mr, Has wr mr ∧ Env w wr ∧ BW m1 (fun _ => False) mr v ((f.bs.drop ps).take j)) ∧ Hid (∀ i, i < j → (f.bs.drop ps)[i]? ≠ some 10)) (fun at' _ _ => L - (intOf at').toNat)
        case atStart => exact ⟨ps, 0, none, 0, rfl, rfl, rfl, by omega, by omega, Lib.hid ⟨m1, H1d.out, N1d.out, B0.out⟩, Lib.hid (fun i hi => by omega)⟩
        case round =>
          obtain ⟨p, j, xa, xc, hp, rfl, rfl, hpl', hjQ, HX, HN⟩ := hrel
          obtain ⟨mr, hwr, nr, bw⟩ := HX.out
          have lmr : m1.le mr := fun b o h => bw.keep b o h (fun c => c)
          obtain ⟨c1, olt, rlt, z2, v2, e2⟩ := CW.out mr lmr wr hwr
          by_cases d1 : (p : Int) < (L : Int)
          · by_cases d2 : (j : Int) < (Q : Int)
            · obtain ⟨x, hx⟩ : ∃ x, f.bs[p]? = some x := ⟨f.bs[p]'(by rw [HL.out]; omega), List.getElem?_eq_getElem _⟩
              have ex : wr.cell? ⟨gb, p, none⟩ = some (.int .u8 x.toNat) := BYTE.out mr lmr wr hwr p x hx
              have glt : gb < wr.heap.size := by
                unfold World.cell? at ex
                cases ho : wr.heap[gb]? with
                | none => rw [ho] at ex; cases ex
                | some o => exact (Array.getElem?_eq_some_iff.1 ho).1
              have hxd : (f.bs.drop ps)[j]? = some x := by rw [List.getElem?_drop, ← hp]; exact hx
              have HXD := Lib.hid hxd
              have HPS2 := Lib.hid hp
              clear hxd hx
              by_cases d3 : x = 10
              · have d3b : ((x.toNat : Int) == 10) = true := by rw [d3]; rfl
                have D3 := Lib.hid d3
                clear d3
                obtain ⟨m2, h2, r2, f2⟩ := SO.out (p + 1) (by omega) mr lmr wr hwr
                have LFX := Lib.hid (LF.out (by omega) j 1 (by have := HPS2.out; omega) hjQ HN.out (.inr ⟨by have := HPS2.out; omega, by omega, by rw [← D3.out]; exact HXD.out, rfl⟩))
                have OUT : Hid (OutB m (.slice xa j xc) m2 ((f.bs.drop ps).take j)) := Lib.hid ⟨bw.row.keep fun b o hb hmb => f2.keep b o hmb (fun hpf => by
                  rcases bw.new b hb with h | h
                  · exact h
                  · exact HT.out.rep.unknown h hpf), fun b hb => by
                  rcases bw.new b hb with h | h
                  · exact h.elim
                  · exact RR.none_ahead HT.out FT.out (fun b hb => hb) h⟩
                have FR := Lib.hid (FT.out.trans ((Fr.of_le lmr _).trans f2))
                have NR := Lib.hid nr
                have H2 := Lib.hid h2
                have R2 := Lib.hid r2
                clear h2 r2 f2 nr bw lmr HX hwr hp HXD D3
                go_wp2_with fail
                refine bodyPost_ret (v := .tuple #[.slice xa j xc, .bool true, .int .i64 0]) (by simp [results, Tryz.results69, go_sem]) rfl ?_
                rw [HW.out]
                try rw [HKK.out]
                rw [LFX.out]
                refine ⟨_, _, _, m2, rfl, H2.out, NR.out.setCell _ _, _, R2.out, FR.out, ?_, rfl, OUT.out, rfl⟩
                rw [AB.out, HPS2.out]
              · have d3b : ((x.toNat : Int) == 10) = false := by
                  rw [beq_eq_false_iff_ne]
                  intro h
                  exact d3 (by apply UInt8.toNat_inj.1; show x.toNat = 10; omega)
                obtain ⟨v', w5, m5, hrun, n5, h5, bw5, _⟩ := bw.app (fun _ h => h.elim) (fun _ h => h.elim) x 26 wr hwr (by rw [List.length_take]; omega)
                rw [show ((f.bs.drop ps).take j) ++ [x] = (f.bs.drop ps).take (j + 1) from by rw [List.take_add_one, HXD.out]; rfl] at bw5
                have wl5 := bw5.row.lenV
                rw [show ((f.bs.drop ps).take (j + 1)).length = j + 1 from by rw [List.length_take, List.length_drop, HL.out]; omega] at wl5
                obtain ⟨xa', xc', rfl, _⟩ := wl5
                have HX5 : Hid (∃ mr, Has w5 mr ∧ Env w w5 ∧ BW m1 (fun _ => False) mr (.slice xa' (j + 1) xc') ((f.bs.drop ps).take (j + 1))) := Lib.hid ⟨m5, h5, nr.trans n5, bw5⟩
                have D3 := Lib.hid d3
                clear n5 h5 bw5 bw nr HX hwr lmr d3 hp
                change (Builtin.append_ #[26, 26] 26 #[.slice xa j xc, .slice (some ⟨wr.heap.size, 0, none⟩) 1 1]).run Tryz.prog (wr.alloc (.cells #[.int .u8 x.toNat] 5)) = _ at hrun
                go_wp2_with (at_builtin; refine wpList_b2 rfl .append Builtin.append_ (fun _ _ _ _ => rfl) _ _ _ _ rfl rfl rfl hrun ?_)
                go_roundw
                case rel =>
                  refine ⟨p + 1, j + 1, xa', xc', by have := HPS2.out; omega, by go_num, rfl, by omega, by omega, HX5, Lib.hid (fun i hi => ?_)⟩
                  rcases Nat.lt_or_ge i j with h | h
                  · exact HN.out i h
                  · obtain rfl : i = j := by omega
                    rw [HXD.out]; exact fun h => D3.out (Option.some.inj h)
                case measure => simp [intOf]; omega
            · have HPS2 := Lib.hid hp
              obtain ⟨m2, h2, r2, f2⟩ := SO.out (p + 0) (by omega) mr lmr wr hwr
              have LFX := Lib.hid (LF.out (by omega) j 0 (by have := HPS2.out; omega) hjQ HN.out (.inl ⟨.inr (by omega), rfl⟩))
              have OUT : Hid (OutB m (.slice xa j xc) m2 ((f.bs.drop ps).take j)) := Lib.hid ⟨bw.row.keep fun b o hb hmb => f2.keep b o hmb (fun hpf => by
                rcases bw.new b hb with h | h
                · exact h
                · exact HT.out.rep.unknown h hpf), fun b hb => by
                rcases bw.new b hb with h | h
                · exact h.elim
                · exact RR.none_ahead HT.out FT.out (fun b hb => hb) h⟩
              have FR := Lib.hid (FT.out.trans ((Fr.of_le lmr _).trans f2))
              have NR := Lib.hid nr
              have H2 := Lib.hid h2
              have R2 := Lib.hid r2
              clear h2 r2 f2 nr bw lmr HX hwr hp
              go_wp2_with fail
              refine bodyPost_ret (v := .tuple #[.slice xa j xc, .bool true, .int .i64 0]) (by simp [results, Tryz.results69, go_sem]) rfl ?_
              rw [HW.out]
              try rw [HKK.out]
              rw [LFX.out]
              refine ⟨_, _, _, m2, rfl, H2.out, NR.out.setCell _ _, _, R2.out, FR.out, ?_, rfl, OUT.out, rfl⟩
              rw [AB.out, HPS2.out]
          · have HPS2 := Lib.hid hp
            obtain ⟨m2, h2, r2, f2⟩ := SO.out (p + 0) (by omega) mr lmr wr hwr
            have LFX := Lib.hid (LF.out (by omega) j 0 (by have := HPS2.out; omega) hjQ HN.out (.inl ⟨.inl (by have := HPS2.out; omega), rfl⟩))
            have OUT : Hid (OutB m (.slice xa j xc) m2 ((f.bs.drop ps).take j)) := Lib.hid ⟨bw.row.keep fun b o hb hmb => f2.keep b o hmb (fun hpf => by
              rcases bw.new b hb with h | h
              · exact h
              · exact HT.out.rep.unknown h hpf), fun b hb => by
              rcases bw.new b hb with h | h
              · exact h.elim
              · exact RR.none_ahead HT.out FT.out (fun b hb => hb) h⟩
            have FR := Lib.hid (FT.out.trans ((Fr.of_le lmr _).trans f2))
            have NR := Lib.hid nr
            have H2 := Lib.hid h2
            have R2 := Lib.hid r2
            clear h2 r2 f2 nr bw lmr HX hwr hp
            go_wp2_with fail
            refine bodyPost_ret (v := .tuple #[.slice xa j xc, .bool true, .int .i64 0]) (by simp [results, Tryz.results69, go_sem]) rfl ?_
            rw [HW.out]
            try rw [HKK.out]
            rw [LFX.out]
            refine ⟨_, _, _, m2, rfl, H2.out, NR.out.setCell _ _, _, R2.out, FR.out, ?_, rfl, OUT.out, rfl⟩
            rw [AB.out, HPS2.out]
end Go.Proofs.YtcdmdkgiabfbeaaGreatDoor
