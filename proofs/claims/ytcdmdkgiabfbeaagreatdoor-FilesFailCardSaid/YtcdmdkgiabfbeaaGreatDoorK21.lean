/-
  The document's Create. (printed by refn_gen.py)
-/
import Derived.Test.YtcdmdkgiabfbeaaGreatDoorK20
import Derived.Test.YtcdmdkgiabfbeaaGreatDoorK07
import Derived.Test.YtcdmdkgiabfbeaaGreatDoorK03
import Derived.Test.YtcdmdkgiabfbeaaGreatDoorK04
import Derived.Test.YtcdmdkgiabfbeaaGreatDoorK18
import Derived.Test.YtcdmdkgiabfbeaaGreatDoorK08
namespace Go.Proofs.YtcdmdkgiabfbeaaGreatDoor
open Go.RowKit

theorem RR.push {m m2 : Mem} {rb : Nat} {r : RG} (h : RR m rb r) (s : ByteArray) (v' : Value) (gr : Grows m m2 r.fv v') (row : Row m2 v' 100 2 (r.F.length + 1) (r.F.flatMap rfCells ++ rfCells ⟨s, .slice none 0 0, []⟩))
    (hg : getR r.F s = none) (hs : isNameB s = true) (hl : r.F.length + 1 ≤ 101 + r.n) :
    RR (m2.set rb (rstoreObj { r with fv := v', F := r.F ++ [⟨s, .slice none 0 0, []⟩] })) rb { r with fv := v', F := r.F ++ [⟨s, .slice none 0 0, []⟩] } ∧
    Fr m (m2.set rb (rstoreObj { r with fv := v', F := r.F ++ [⟨s, .slice none 0 0, []⟩] })) (RFP rb r) (RFP rb { r with fv := v', F := r.F ++ [⟨s, .slice none 0 0, []⟩] }) ∧
    ({ r with fv := v', F := r.F ++ [⟨s, .slice none 0 0, []⟩] } : RG).abs = r.abs.make s := by
  have hne : s ≠ ⟨#[]⟩ := fun h => by rw [h, isNameB_eq] at hs; revert hs; decide
  refine ⟨⟨h.rep.push ⟨s, .slice none 0 0, []⟩ v' gr row (Row.nil _ _ _) (fun d _ b _ hb => by cases hb) hne hs (fun d hd he => ?_) (Nat.zero_le _) hl, h.zero⟩, ⟨fun b o hb hp => ?_, fun b hb => ?_⟩, ?_⟩
  · obtain ⟨i, hi⟩ := List.getElem?_of_mem hd
    rw [(getR_iff h.rep.dist).2 ⟨hne, he, i, hi⟩] at hg; cases hg
  · rw [Mem.set_ne _ _ (fun e => hp (.inl e))]
    exact gr.keep hb (fun e => hp (.inr (.inl e)))
  · rcases RFP_push gr hb with h1 | h1 | h1
    · exact .inl h1
    · exact .inr h1
    · cases h1
  · exact abs_push h.rep (f := ⟨s, .slice none 0 0, []⟩) hg hne rfl

set_option maxHeartbeats 4000000 in
set_option maxRecDepth 100000 in
theorem create_ref (rb : Nat) (s : ByteArray) (mode : Int) (r : RG) (w : World) (m : Mem) (hm : Has w m) (hr : RR m rb r) (hn : r.n ≤ 9998) :
    Calls Tryz.prog 55 #[.pointer (some ⟨rb, 0, none⟩), .string s, .int .i64 mode] w
      (AnsB w fun v m2 x => ROpR m rb r (r.abs.createF s mode) (fun _ i => v = .int .i64 i) m2 x) := by
  have HOP := Lib.hid (op_ref rb r w m hm hr.rep (by omega))
  have HR := Lib.hid hr
  have HT := Lib.hid hr.tick
  have FT := Lib.hid (RR.frTick m rb r)
  clear hm hr
  go_enter Tryz.func55, Tryz.ntmps55
  go_wp2_with fail
  refine HOP.out.mono ?_
  rintro e w1 ⟨rfl, h1, n1⟩
  have H1 := Lib.hid h1
  have N1 := Lib.hid n1
  clear h1 n1 HOP
  obtain ⟨x, hxx⟩ : ∃ x, r.now.2.1 = x := ⟨_, rfl⟩
  rw [hxx]
  have HXX : Hid (r.abs.now.2.1 = x) := Lib.hid hxx
  clear hxx
  by_cases hx : x = 0
  · subst hx
    obtain ⟨m1, hm1⟩ : ∃ m1, m.set rb (rstoreObj r.tick) = m1 := ⟨_, rfl⟩
    have ET := HR.out.early (β := Int) (-38) 0 (fun _ i => (.int .i64 0 : Value) = .int .i64 i) rfl
    have ET2 := HR.out.early (β := Int) (-69) 0 (fun _ i => (.int .i64 0 : Value) = .int .i64 i) rfl
    have ET3 := HR.out.early (β := Int) (-20) 0 (fun _ i => (.int .i64 0 : Value) = .int .i64 i) rfl
    have ET4 := HR.out.early (β := Int) (-8) 0 (fun _ i => (.int .i64 0 : Value) = .int .i64 i) rfl
    rw [hm1] at H1 HT FT ET ET2 ET3 ET4
    have HE38 := Lib.hid ET
    have HE69 := Lib.hid ET2
    have HE20 := Lib.hid ET3
    have HE8 := Lib.hid ET4
    clear hm1 ET ET2 ET3 ET4
    go_wp2_with fail
    refine (named_ref s _).mono ?_
    rintro e wy ⟨rfl, hwy⟩
    rw [hwy]
    clear hwy
    obtain ⟨bn, hbn⟩ : ∃ bn, isNameB s = bn := ⟨_, rfl⟩
    rw [hbn]
    have HBN := Lib.hid hbn
    clear hbn
    cases bn with
    | false =>
      have HX : Hid (r.abs.createX s mode = -38) := Lib.hid (by
        unfold A.createX
        rw [HXX.out, if_neg (fun c => c rfl), HBN.out]; rfl)
      go_wp2_with fail
      refine bodyPost_ret (v := .tuple #[.int .i64 0, .int .i64 (-38)]) (by simp [results, Tryz.results55, go_sem]) rfl ?_
      have hF : r.abs.createF s mode = (r.abs.tick, -38, 0) := by unfold A.createF; rw [HX.out, if_pos (by decide)]
      rw [hF]
      exact ⟨_, _, _, rfl, H1.out, N1.out, HE38.out⟩
    | true =>
      go_wp2_with fail
      refine (mode_ref mode _).mono ?_
      rintro e wy ⟨rfl, hwy⟩
      rw [hwy]
      clear hwy
      obtain ⟨bm, hbm⟩ : ∃ bm, modeB mode = bm := ⟨_, rfl⟩
      rw [hbm]
      have HBM := Lib.hid hbm
      clear hbm
      cases bm with
      | false =>
        have HX : Hid (r.abs.createX s mode = -20) := Lib.hid (by
          unfold A.createX
          rw [HXX.out, if_neg (fun c => c rfl), HBN.out, HBM.out]; rfl)
        go_wp2_with fail
        refine bodyPost_ret (v := .tuple #[.int .i64 0, .int .i64 (-20)]) (by simp [results, Tryz.results55, go_sem]) rfl ?_
        have hF : r.abs.createF s mode = (r.abs.tick, -20, 0) := by unfold A.createF; rw [HX.out, if_pos (by decide)]
        rw [hF]
        exact ⟨_, _, _, rfl, H1.out, N1.out, HE20.out⟩
      | true =>
        go_wp2_with fail
        refine (find_any rb r.tick s _ m1 H1.out HT.out.rep (by show r.n + 1 ≤ _; omega)).mono ?_
        rintro e wy ⟨n, rfl, hn, hwy⟩
        rw [hwy]
        clear hwy
        have HFIn := Lib.hid (HT.out.rep.find hn)
        clear hn
        go_wp2_with fail
        refine (free_ref rb r.tick _ m1 H1.out HT.out).mono ?_
        rintro e wy ⟨id, rfl, hwy, hid⟩
        rw [hwy]
        have HID := Lib.hid hid
        clear hwy hid
        by_cases hid0 : id = 0
        · subst hid0
          have HX : Hid (r.abs.createX s mode = -8) := Lib.hid (by
            have hfr : r.abs.free = none := by
              rcases HID.out with ⟨_, h⟩ | ⟨h, _⟩
              · exact h
              · omega
            unfold A.createX A.fullC
            rw [HXX.out, if_neg (fun c => c rfl), HBN.out, HBM.out, hfr]; rfl)
          go_wp2_with fail
          refine bodyPost_ret (v := .tuple #[.int .i64 0, .int .i64 (-8)]) (by simp [results, Tryz.results55, go_sem]) rfl ?_
          have hF : r.abs.createF s mode = (r.abs.tick, -8, 0) := by unfold A.createF; rw [HX.out, if_pos (by decide)]
          rw [hF]
          exact ⟨_, _, _, rfl, H1.out, N1.out, HE8.out⟩
        · obtain ⟨hid1, hid2, hfr⟩ : 1 ≤ id ∧ id ≤ 32 ∧ r.abs.free = some (id - 1) := by
            rcases HID.out with ⟨h, _⟩ | h
            · exact absurd h hid0
            · exact h
          have hb1 : ((id : Int) == 0) = false := by rw [beq_eq_false_iff_ne]; omega
          have HFR := Lib.hid hfr
          clear hfr
          by_cases hn0 : n = 0
          · subst hn0
            have HG : Hid (getR r.tick.F s = none) := Lib.hid (by
              rcases HFIn.out with ⟨_, hg⟩ | ⟨h, _⟩
              · exact hg
              · omega)
            go_wp2_with fail
            refine (count_ref rb r.tick _ m1 H1.out HT.out.rep (by show r.n + 1 ≤ _; omega)).mono ?_
            rintro e wy ⟨rfl, hwy⟩
            rw [hwy]
            clear hwy
            obtain ⟨c, hc⟩ : ∃ c, r.tick.abs.count = c := ⟨_, rfl⟩
            rw [hc]
            have HC : Hid (r.abs.count = c) := Lib.hid hc
            clear hc
            by_cases hc100 : 100 ≤ (c : Int)
            · have HX : Hid (r.abs.createX s mode = -8) := Lib.hid (by
                unfold A.createX A.fullC
                rw [HXX.out, if_neg (fun c => c rfl), HBN.out, HBM.out, HFR.out, abs_lookN HG.out, HC.out, decide_eq_true (by omega : 100 ≤ c)]; rfl)
              go_wp2_with fail
              refine bodyPost_ret (v := .tuple #[.int .i64 0, .int .i64 (-8)]) (by simp [results, Tryz.results55, go_sem]) rfl ?_
              have hF : r.abs.createF s mode = (r.abs.tick, -8, 0) := by unfold A.createF; rw [HX.out, if_pos (by decide)]
              rw [hF]
              exact ⟨_, _, _, rfl, H1.out, N1.out, HE8.out⟩
            · have HX : Hid (r.abs.createX s mode = 0) := Lib.hid (by
                unfold A.createX A.fullC
                rw [HXX.out, if_neg (fun c => c rfl), HBN.out, HBM.out, HFR.out, abs_lookN HG.out, HC.out, decide_eq_false (by omega : ¬ 100 ≤ c)]; rfl)
              obtain ⟨fb, fcap, hfv, hat0⟩ := HT.out.rep.at H1.out
              clear hat0
              obtain ⟨c0, flt, hatf⟩ := HT.out.rep.at' H1.out hfv
              clear hatf
              have hflen : r.F.length ≤ 101 + r.n := HR.out.rep.flen
              change w1.cell? ⟨rb, 0, none⟩ = some (.slice (some ⟨fb, 0, none⟩) r.F.length fcap) at c0
              change r.fv = .slice (some ⟨fb, 0, none⟩) r.F.length fcap at hfv
              have rlt := H1.out.lt HT.out.rep.store
              have h7 := H1.out.alloc (.cells #[.string s, .slice none 0 0] 100)
              have l7 := Mem.le_set m1 (.cells #[.string s, .slice none 0 0] 100) (H1.out.fresh (Nat.le_refl _))
              obtain ⟨i0, hi, hz0, hz1, hz2⟩ := info_parts infoRF
              have rr7 := HT.out.le l7
              have rrf : Row (m1.set w1.heap.size (.cells #[.string s, .slice none 0 0] 100 (0, 0))) (.slice (some ⟨fb, 0, none⟩) r.F.length fcap) 100 2 r.F.length (r.F.flatMap rfCells) := by rw [← hfv]; exact rr7.rep.files
              obtain ⟨v', w8, m8, hrun, n8, h8, row8, gr8⟩ := run_append_row (P := Tryz.prog) 55 55 100 i0 _ 2 40 Tryz.underlying55 hi hz0 hz1 hz2 rfl (by decide)
                h7 (.slice (some ⟨fb, 0, none⟩) r.F.length fcap) r.F.length (r.F.flatMap rfCells) rrf _ 0 1 1 [.string s, .slice none 0 0] rfl (Cells.whole (Mem.set_same _ _ _) rfl) (by simp [Value.oneCell']) (by decide) (by omega) (by omega)
              obtain ⟨va, vc, rfl, _⟩ := row8.lenV
              obtain ⟨r9, f9, a9⟩ := rr7.push s (.slice va (r.F.length + 1) vc) (by show Grows _ _ r.fv _; rw [hfv]; exact gr8) row8 HG.out HBN.out (by show r.F.length + 1 ≤ 101 + (r.n + 1); omega)
              have rb8 := gr8.keep rr7.rep.store (by rw [← hfv]; exact (rr7.rep.files.notOwn (e' := 58) rr7.rep.store (by decide)))
              have f0 : w8.cell? ⟨rb, 0, none⟩ = some (.slice (some ⟨fb, 0, none⟩) r.F.length fcap) := by rw [h8.cell rb8, ← hfv]; rfl
              have f3 : w8.frozen? ⟨rb, 0, none⟩ = false := h8.froz rb8
              have rlt8 := h8.lt rb8
              have h9 := h8.storeTo (off := 0) (c' := #[.slice va (r.F.length + 1) vc, r.ov, r.xv, .int .i64 (r.n + 1 : Nat), .int .i64 r.now.1, .int .i64 r.now.2.1, .int .i64 r.now.2.2]) rb8 (.slice va (r.F.length + 1) vc) (by simp [RG.tick])
              have H9 := Lib.hid h9
              have R9 := Lib.hid r9
              have F9 := Lib.hid ((Fr.of_le l7 _).trans f9)
              have A9 := Lib.hid a9
              have N9 := Lib.hid (((N1.out.alloc (.cells #[.string s, .slice none 0 0] 100)).trans n8).setCell ⟨rb, 0, none⟩ (.slice va (r.F.length + 1) vc))
              clear h7 l7 hi hz0 hz1 hz2 rr7 rrf n8 h8 row8 gr8 rb8 r9 f9 a9 h9 hfv
              have HNZ : Hid (s ≠ ⟨#[]⟩) := Lib.hid (fun h => by
                have h1 := HBN.out
                rw [h, isNameB_eq] at h1
                revert h1; decide)
              obtain ⟨fq, hfq, hnq⟩ : ∃ fq, (r.F ++ [(⟨s, .slice none 0 0, []⟩ : RF)])[r.F.length]? = some fq ∧ fq.name = s := ⟨⟨s, .slice none 0 0, []⟩, by simp, rfl⟩
              have hn0 : r.F.length ≠ 0 := by
                obtain ⟨f, F', h1, _⟩ := HR.out.rep.head
                rw [h1]; simp
              obtain ⟨vb, vcap, hvv, hat0⟩ := R9.out.rep.at H9.out
              clear hat0
              have hvv0 := hvv
              obtain ⟨p0, vlt, hatf⟩ := R9.out.rep.at' H9.out hvv
              have hnl : r.F.length < ({ r.tick with fv := .slice va (r.F.length + 1) vc, F := r.F ++ [⟨s, .slice none 0 0, []⟩] } : RG).F.length := (List.getElem?_eq_some_iff.1 hfq).1
              obtain ⟨p1, p2⟩ := hatf r.F.length hnl
              have p3 : ((w8.setCell ⟨rb, 0, none⟩ (.slice va (r.F.length + 1) vc))).cell? ⟨vb, r.F.length * 2 + 1, none⟩ = some fq.bv := p2.trans (congrArg some (congrArg RF.bv (List.getElem?_eq_some_iff.1 hfq).2))
              clear hatf p1 p2
              have hdist : Dist (({ r.tick with fv := .slice va (r.F.length + 1) vc, F := r.F ++ [⟨s, .slice none 0 0, []⟩] } : RG).F.set r.F.length { fq with bv := .slice none 0 0, bs := [] }) := dist_set R9.out.rep.dist fun i d hi hd hn he => hi (R9.out.rep.dist i r.F.length d fq hd hfq (by rw [← he]; exact hn) he.symm)
              have hfn : fq.name ≠ ⟨#[]⟩ := by rw [hnq]; exact HNZ.out
              obtain ⟨hfz, m2, h2, r2, f2⟩ := R9.out.setF hvv (k := r.F.length) hfq hn0 (fun b o ho _ => ho) { fq with bv := .slice none 0 0, bs := [] } 1 [.slice none 0 0] (Nat.le_refl 2) rfl (Row.nil _ _ _) (fun b h => by cases h) hdist (fun _ => by show isNameB fq.name = true; rw [hnq]; exact HBN.out) (Nat.zero_le _) (fun h => absurd h hfn) H9.out
              change Has ((w8.setCell ⟨rb, 0, none⟩ (.slice va (r.F.length + 1) vc)).setCell ⟨vb, r.F.length * 2 + 1, none⟩ (.slice none 0 0)) m2 at h2
              have ab2 := abs_putB (r := ({ r.tick with fv := .slice va (r.F.length + 1) vc, F := r.F ++ [⟨s, .slice none 0 0, []⟩] } : RG)) R9.out.rep.dist hfq (f' := { fq with bv := .slice none 0 0, bs := [] }) rfl hfn
              obtain ⟨ob, ocap, hov, hat⟩ := r2.rep.atO
              have hgz := r2.rep.frozO hov h2
              obtain ⟨c1, olt, hat⟩ := hat _ h2
              obtain ⟨o, ho⟩ : ∃ o, ({ ({ r.tick with fv := .slice va (r.F.length + 1) vc, F := r.F ++ [⟨s, .slice none 0 0, []⟩] } : RG) with F := ({ r.tick with fv := .slice va (r.F.length + 1) vc, F := r.F ++ [⟨s, .slice none 0 0, []⟩] } : RG).F.set r.F.length { fq with bv := .slice none 0 0, bs := [] } } : RG).O[id]? = some o := ⟨_, List.getElem?_eq_getElem (by rw [r2.rep.olen]; omega)⟩
              obtain ⟨e0, e1, e2⟩ := hat id o ho
              obtain ⟨m3, h3, r3, f3⟩ := r2.setO hov (o := o) ho hid1 ⟨r.F.length, mode, 0⟩ 0 [.int .i64 (r.F.length : Nat), .int .i64 mode, .int .i64 0] (Nat.le_refl 3) rfl (.inr ⟨_, List.getElem?_set_self hnl, hfn⟩) (Nat.zero_le _) h2
              have ab3 := abs_putO (r := { ({ r.tick with fv := .slice va (r.F.length + 1) vc, F := r.F ++ [⟨s, .slice none 0 0, []⟩] } : RG) with F := ({ r.tick with fv := .slice va (r.F.length + 1) vc, F := r.F ++ [⟨s, .slice none 0 0, []⟩] } : RG).F.set r.F.length { fq with bv := .slice none 0 0, bs := [] } }) (k := id - 1) ⟨r.F.length, mode, 0⟩ (by rw [show id - 1 + 1 = id from by omega]; exact (List.getElem?_eq_some_iff.1 ho).1)
              rw [show id - 1 + 1 = id from by omega] at ab3
              have hro : roAbs (({ r.tick with fv := .slice va (r.F.length + 1) vc, F := r.F ++ [⟨s, .slice none 0 0, []⟩] } : RG).F.set r.F.length { fq with bv := .slice none 0 0, bs := [] }) ⟨r.F.length, mode, 0⟩ = some (s, mode, 0) := by
                unfold roAbs
                rw [if_neg (show ¬ ({ file := r.F.length, mode := mode, pos := 0 } : RO).file = 0 from hn0)]
                show ((({ r.tick with fv := .slice va (r.F.length + 1) vc, F := r.F ++ [⟨s, .slice none 0 0, []⟩] } : RG).F.set r.F.length _)[r.F.length]?).map _ = _
                rw [List.getElem?_set_self hnl]
                show some (fq.name, mode, 0) = _
                rw [hnq]
              rw [hro, ab2] at ab3
              have ab4 : A.setF ({ r.tick with fv := .slice va (r.F.length + 1) vc, F := r.F ++ [⟨s, .slice none 0 0, []⟩] } : RG).abs fq.name [] = r.abs.tick.make s := by rw [hnq]; exact (congrArg (fun a => A.setF a s []) A9.out).trans (make_setF r.abs.tick s)
              have AB := Lib.hid (ab3.trans (congrArg (fun a => A.setH a (id - 1) (some (s, mode, 0))) ab4))
              have z0 := hgz (id * 3) (by omega)
              have z1 := hgz (id * 3 + 1) (by omega)
              have z2 := hgz (id * 3 + 2) (by omega)
              have z3 := hfz (r.F.length * 2 + 1) (by show r.F.length * 2 + 1 < (r.F ++ [(⟨s, .slice none 0 0, []⟩ : RF)]).length * 2; rw [List.length_append, List.length_singleton]; omega)
              clear p0
              have H3 := Lib.hid h3
              have R3 := Lib.hid r3
              have F3 := Lib.hid (F9.out.trans (f2.trans f3))
              clear hfz hgz hat h2 h3 r2 r3 f2 f3 ho hov hvv hdist hfn ab2 ab3 ab4 hro hnl
              obtain ⟨rfl, rfl⟩ : va = some ⟨vb, 0, none⟩ ∧ vc = vcap := by
                have h1 : Value.slice va (r.F.length + 1) vc = .slice (some ⟨vb, 0, none⟩) (r.F ++ [(⟨s, .slice none 0 0, []⟩ : RF)]).length vcap := hvv0
                simp only [Value.slice.injEq] at h1
                exact ⟨h1.1, h1.2.2⟩
              clear hvv0
              go_wp2_with (at_builtin; refine wpList_b2 rfl .append Builtin.append_ (fun _ _ _ _ => rfl) _ _ _ _ rfl rfl rfl hrun ?_)
              refine bodyPost_ret (v := .tuple #[.int .i64 id, .int .i64 0]) (by simp [results, Tryz.results55, go_sem]) rfl ?_
              have hF : r.abs.createF s mode = ((r.abs.tick.make s).setH (id - 1) (some (s, mode, 0)), 0, (id : Int)) := by
                unfold A.createF
                rw [HX.out, if_neg (fun c => c rfl), HFR.out]
                show (_, _, ((id - 1 : Nat) : Int) + 1) = _
                rw [show ((id - 1 : Nat) : Int) + 1 = id from by omega]; rfl
              rw [hF]
              exact ⟨_, _, m3, rfl, H3.out, (((N9.out.setCell _ _).setCell _ _).setCell _ _).setCell _ _, _, R3.out, FT.out.trans F3.out, AB.out, rfl, rfl⟩
          · have hb0 : ((n : Int) == 0) = false := by rw [beq_eq_false_iff_ne]; omega
            obtain ⟨fq, hfq, hnq, hg, hne⟩ : ∃ f, r.tick.F[n]? = some f ∧ f.name = s ∧ getR r.tick.F s = some f ∧ s ≠ ⟨#[]⟩ := by
              rcases HFIn.out with ⟨h, _⟩ | ⟨_, h0, f, h1, h2, h3⟩
              · exact absurd h hn0
              · exact ⟨f, h1, h2, h3, h0⟩
            have HX : Hid (r.abs.createX s mode = 0) := Lib.hid (by
              unfold A.createX A.fullC
              rw [HXX.out, if_neg (fun c => c rfl), HBN.out, HBM.out, HFR.out, (abs_lookS' hg).1]; rfl)
            have HNZ := Lib.hid hne
            have HG := Lib.hid hg
            clear hg hne
            have rlt := H1.out.lt HT.out.rep.store
            have hflen : r.F.length ≤ 101 + r.n := HR.out.rep.flen
            obtain ⟨vb, vcap, hvv, hat0⟩ := HT.out.rep.at H1.out
            clear hat0
            obtain ⟨p0, vlt, hatf⟩ := HT.out.rep.at' H1.out hvv
            have hnl : n < r.tick.F.length := (List.getElem?_eq_some_iff.1 hfq).1
            obtain ⟨p1, p2⟩ := hatf n hnl
            have p3 : (w1).cell? ⟨vb, n * 2 + 1, none⟩ = some fq.bv := p2.trans (congrArg some (congrArg RF.bv (List.getElem?_eq_some_iff.1 hfq).2))
            clear hatf p1 p2
            have hdist : Dist (r.tick.F.set n { fq with bv := .slice none 0 0, bs := [] }) := dist_set HT.out.rep.dist fun i d hi hd hn he => hi (HT.out.rep.dist i n d fq hd hfq (by rw [← he]; exact hn) he.symm)
            have hfn : fq.name ≠ ⟨#[]⟩ := by rw [hnq]; exact HNZ.out
            obtain ⟨hfz, m2, h2, r2, f2⟩ := HT.out.setF hvv (k := n) hfq hn0 (fun b o ho _ => ho) { fq with bv := .slice none 0 0, bs := [] } 1 [.slice none 0 0] (Nat.le_refl 2) rfl (Row.nil _ _ _) (fun b h => by cases h) hdist (fun _ => by show isNameB fq.name = true; rw [hnq]; exact HBN.out) (Nat.zero_le _) (fun h => absurd h hfn) H1.out
            change Has (w1.setCell ⟨vb, n * 2 + 1, none⟩ (.slice none 0 0)) m2 at h2
            have ab2 := abs_putB (r := r.tick) HT.out.rep.dist hfq (f' := { fq with bv := .slice none 0 0, bs := [] }) rfl hfn
            obtain ⟨ob, ocap, hov, hat⟩ := r2.rep.atO
            have hgz := r2.rep.frozO hov h2
            obtain ⟨c1, olt, hat⟩ := hat _ h2
            obtain ⟨o, ho⟩ : ∃ o, ({ r.tick with F := r.tick.F.set n { fq with bv := .slice none 0 0, bs := [] } } : RG).O[id]? = some o := ⟨_, List.getElem?_eq_getElem (by rw [r2.rep.olen]; omega)⟩
            obtain ⟨e0, e1, e2⟩ := hat id o ho
            obtain ⟨m3, h3, r3, f3⟩ := r2.setO hov (o := o) ho hid1 ⟨n, mode, 0⟩ 0 [.int .i64 (n : Nat), .int .i64 mode, .int .i64 0] (Nat.le_refl 3) rfl (.inr ⟨_, List.getElem?_set_self hnl, hfn⟩) (Nat.zero_le _) h2
            have ab3 := abs_putO (r := { r.tick with F := r.tick.F.set n { fq with bv := .slice none 0 0, bs := [] } }) (k := id - 1) ⟨n, mode, 0⟩ (by rw [show id - 1 + 1 = id from by omega]; exact (List.getElem?_eq_some_iff.1 ho).1)
            rw [show id - 1 + 1 = id from by omega] at ab3
            have hro : roAbs (r.tick.F.set n { fq with bv := .slice none 0 0, bs := [] }) ⟨n, mode, 0⟩ = some (s, mode, 0) := by
              unfold roAbs
              rw [if_neg (show ¬ ({ file := n, mode := mode, pos := 0 } : RO).file = 0 from hn0)]
              show ((r.tick.F.set n _)[n]?).map _ = _
              rw [List.getElem?_set_self hnl]
              show some (fq.name, mode, 0) = _
              rw [hnq]
            rw [hro, ab2] at ab3
            have ab4 : A.setF r.tick.abs fq.name [] = r.abs.tick.make s := by rw [hnq]; exact (make_there (a := r.abs.tick) (abs_lookS' HG.out).1).symm
            have AB := Lib.hid (ab3.trans (congrArg (fun a => A.setH a (id - 1) (some (s, mode, 0))) ab4))
            have z0 := hgz (id * 3) (by omega)
            have z1 := hgz (id * 3 + 1) (by omega)
            have z2 := hgz (id * 3 + 2) (by omega)
            have z3 := hfz (n * 2 + 1) (by have : n < r.F.length := hnl; show n * 2 + 1 < r.F.length * 2; omega)
            change w1.cell? ⟨rb, 0, none⟩ = some (.slice (some ⟨vb, 0, none⟩) r.F.length vcap) at p0
            have hnl2 : n < r.F.length := hnl
            have H3 := Lib.hid h3
            have R3 := Lib.hid r3
            have F3 := Lib.hid ((Fr.refl m1 (RFP rb r)).trans (f2.trans f3))
            clear hfz hgz hat h2 h3 r2 r3 f2 f3 ho hov hvv hdist hfn ab2 ab3 ab4 hro hnl
            go_wp2_with fail
            refine bodyPost_ret (v := .tuple #[.int .i64 id, .int .i64 0]) (by simp [results, Tryz.results55, go_sem]) rfl ?_
            have hF : r.abs.createF s mode = ((r.abs.tick.make s).setH (id - 1) (some (s, mode, 0)), 0, (id : Int)) := by
              unfold A.createF
              rw [HX.out, if_neg (fun c => c rfl), HFR.out]
              show (_, _, ((id - 1 : Nat) : Int) + 1) = _
              rw [show ((id - 1 : Nat) : Int) + 1 = id from by omega]; rfl
            rw [hF]
            exact ⟨_, _, m3, rfl, H3.out, (((N1.out.setCell _ _).setCell _ _).setCell _ _).setCell _ _, _, R3.out, FT.out.trans F3.out, AB.out, rfl, rfl⟩
  · have HE := Lib.hid (HR.out.early x 0 (fun _ i => (.int .i64 0 : Value) = .int .i64 i) rfl)
    have HNE := Lib.hid hx
    have hb : (x == 0) = false := by simpa using hx
    clear hx
    go_wp2_with fail
    refine bodyPost_ret (v := .tuple #[.int .i64 0, .int .i64 (x)]) (by simp [results, Tryz.results55, go_sem]) rfl ?_
    have hX : r.abs.createX s mode = x := by unfold A.createX; rw [HXX.out, if_pos HNE.out]
    have hF : r.abs.createF s mode = (r.abs.tick, x, 0) := by unfold A.createF; rw [hX, if_pos HNE.out]
    rw [hF]
    exact ⟨_, _, _, rfl, H1.out, N1.out, HE.out⟩

end Go.Proofs.YtcdmdkgiabfbeaaGreatDoor

/-
  Close.
-/
namespace Go.Proofs.YtcdmdkgiabfbeaaGreatDoor
open Go.RowKit

set_option maxHeartbeats 1000000 in
theorem close1_any (sb k p q : Nat) (id : Int) (g : G) (h : Hnd) (fl : Fail3) (w : World) (m : Mem) (hm : Has w m) (hr : SRep m sb g) (hk : g.O[k]? = some (some h)) (hid : id = (k : Int) + 1) (hp : BoxS m p sb) (hq : BoxI m q id) :
    Calls Tryz.prog 48 #[.pointer (some ⟨h.ob, 0, none⟩), failV fl, .pointer (some ⟨p, 0, none⟩), .pointer (some ⟨q, 0, none⟩)] w (DoR w m sb g (fun _ => False) (closeF k g.abs h.abs fl) (fun _ _ => True)) := by
  obtain ⟨ob, n, cap, cur, fz, hov, hn, hob, hth, hkc, hck, hr2, hfr2⟩ := hr.close hk
  have hlt : k < g.O.length := (List.getElem?_eq_some_iff.1 hk).1
  have H := Lib.hid hm
  have HR := Lib.hid hr
  have HR2 := Lib.hid hr2
  have HF2 := Lib.hid hfr2
  have HOB := Lib.hid hob
  have HTH := Lib.hid hth
  have HCK := Lib.hid hck
  have HOV := Lib.hid hov
  have HP := Lib.hid hp
  have HQ := Lib.hid hq
  obtain ⟨f0, f1, fs⟩ := fl
  have hkl : (k : Int) < (n : Int) := by omega
  have hid1 : id - 1 = (k : Int) := by omega
  clear hm hr hr2 hfr2 hob hth hck hov hp hq
  simp only [failV]
  go_enter Tryz.func48, Tryz.ntmps48
  go_wp2_with fail
  refine wp_opaque w m (H.out.keep _) ((Env.refl w).alloc _) ?_
  intro w1 h1 n1
  have c0 : w1.cell? ⟨p, 0, none⟩ = some (.pointer (some ⟨sb, 0, none⟩)) := by rw [h1.cell HP.out]; rfl
  have c1 : w1.cell? ⟨sb, 2, none⟩ = some (.slice (some ⟨ob, 0, none⟩) n cap) := by rw [h1.cell HR.out.store, ← HOV.out]; rfl
  have c2 : w1.cell? ⟨q, 0, none⟩ = some (.int .i64 id) := by rw [h1.cell HQ.out]; rfl
  have c3 : w1.cell? ⟨ob, k, none⟩ = some (.pointer (some ⟨h.ob, 0, none⟩)) := by rw [h1.cell HOB.out]; exact HCK.out
  have c4 : w1.frozen? ⟨ob, k, none⟩ = false := by simp only [World.frozen?, h1 _ _ HOB.out]; exact HTH.out k hkc
  have hwk : IntKind.i64.wrap (k : Int) = (k : Int) := by have := HR.out.olen; simp [IntKind.wrap, IntKind.signed, IntKind.bits]; omega
  have H1 := Lib.hid h1
  have N1 := Lib.hid n1
  have HID := Lib.hid hid
  clear h1 n1 hid
  refine wp_region_K 7 (fun w' => w'.cell? ⟨p, 0, none⟩ = some (.pointer (some ⟨sb, 0, none⟩)) ∧ w'.cell? ⟨sb, 2, none⟩ = some (.slice (some ⟨ob, 0, none⟩) n cap) ∧ w'.cell? ⟨q, 0, none⟩ = some (.int .i64 id)) (by kernel_rfl) ?_
  have hS : (fun w' : World => w'.cell? ⟨p, 0, none⟩ = some (.pointer (some ⟨sb, 0, none⟩)) ∧ w'.cell? ⟨sb, 2, none⟩ = some (.slice (some ⟨ob, 0, none⟩) n cap) ∧ w'.cell? ⟨q, 0, none⟩ = some (.int .i64 id)) w1.drew := ⟨c0, c1, c2⟩
  refine wpAnyK_take (i := 0) (v := ?_) rfl (by kernel_rfl) (by kernel_rfl) (by kernel_rfl) (by kernel_rfl) (fun _ _ _ h => h) (Or.inl ⟨by rfl, ?_⟩) hS ?_
  rotate_left
  · intro w0 hS0; obtain ⟨q0, q1, q2⟩ := hS0; go_simp; try with_reducible rfl
  simp only [Act.put, List.setIfInBounds_toArray, List.set_cons_zero, List.set_cons_succ, List.getElem_toArray, List.getElem_cons_succ, List.getElem_cons_zero]
  refine wpAnyK_take (i := 1) (v := ?_) rfl (by kernel_rfl) (by kernel_rfl) (by kernel_rfl) (by kernel_rfl) (fun _ _ _ h => h) (Or.inl ⟨by rfl, ?_⟩) hS ?_
  rotate_left
  · intro w0 hS0; obtain ⟨q0, q1, q2⟩ := hS0; go_simp; try with_reducible rfl
  simp only [Act.put, List.setIfInBounds_toArray, List.set_cons_zero, List.set_cons_succ, List.getElem_toArray, List.getElem_cons_succ, List.getElem_cons_zero]
  refine wpAnyK_take (i := 2) (v := ?_) rfl (by kernel_rfl) (by kernel_rfl) (by kernel_rfl) (by kernel_rfl) (fun _ _ _ h => h) (Or.inl ⟨by rfl, ?_⟩) hS ?_
  rotate_left
  · intro w0 hS0; obtain ⟨q0, q1, q2⟩ := hS0; go_simp; try with_reducible rfl
  simp only [Act.put, List.setIfInBounds_toArray, List.set_cons_zero, List.set_cons_succ, List.getElem_toArray, List.getElem_cons_succ, List.getElem_cons_zero]
  refine wpAnyK_take (i := 3) (v := ?_) rfl (by kernel_rfl) (by kernel_rfl) (by kernel_rfl) (by kernel_rfl) (fun _ _ _ h => h) (Or.inl ⟨by rfl, ?_⟩) hS ?_
  rotate_left
  · intro w0 hS0; obtain ⟨q0, q1, q2⟩ := hS0; go_simp; try with_reducible rfl
  simp only [Act.put, List.setIfInBounds_toArray, List.set_cons_zero, List.set_cons_succ, List.getElem_toArray, List.getElem_cons_succ, List.getElem_cons_zero]
  refine wpAnyK_take (i := 4) (v := ?_) rfl (by kernel_rfl) (by kernel_rfl) (by kernel_rfl) (by kernel_rfl) (fun _ _ _ h => h) (Or.inl ⟨by rfl, ?_⟩) hS ?_
  rotate_left
  · intro w0 hS0; obtain ⟨q0, q1, q2⟩ := hS0; go_simp; try with_reducible rfl
  simp only [Act.put, List.setIfInBounds_toArray, List.set_cons_zero, List.set_cons_succ, List.getElem_toArray, List.getElem_cons_succ, List.getElem_cons_zero]
  refine wpAnyK_take (i := 5) (v := ?_) rfl (by kernel_rfl) (by kernel_rfl) (by kernel_rfl) (by kernel_rfl) (fun _ _ _ h => h) (Or.inl ⟨by rfl, ?_⟩) hS ?_
  rotate_left
  · intro w0 hS0; obtain ⟨q0, q1, q2⟩ := hS0; go_simp; try with_reducible rfl
  simp only [Act.put, List.setIfInBounds_toArray, List.set_cons_zero, List.set_cons_succ, List.getElem_toArray, List.getElem_cons_succ, List.getElem_cons_zero]
  refine wpAnyK_take (i := 6) (v := ?_) rfl (by kernel_rfl) (by kernel_rfl) (by kernel_rfl) (by kernel_rfl) (fun _ _ _ h => h) (Or.inl ⟨by rfl, ?_⟩) hS ?_
  rotate_left
  · intro w0 hS0; obtain ⟨q0, q1, q2⟩ := hS0; go_simp; try with_reducible rfl
  simp only [Act.put, List.setIfInBounds_toArray, List.set_cons_zero, List.set_cons_succ, List.getElem_toArray, List.getElem_cons_succ, List.getElem_cons_zero]
  refine wpAnyK_one (i := 7) rfl (by kernel_rfl) rfl ?_
  go_simp
  refine wpAnyK_done (by kernel_rfl) ?_ _
  go_wp2_with fail
  go_ret
  have hst := H1.out.drew.store (off := k) HOB.out (.pointer none)
  refine ⟨.nilIface, 0, _, rfl, hst, N1.out.drew.setCell _ _, .inl ⟨rfl, rfl⟩, _, HR2.out, HF2.out.more _, ?_, rfl, trivial⟩
  rw [abs_setH _ _ _ hlt]; rfl
theorem enters_close1 : Enters 48 := fun _ _ => by kernel_rfl

set_option maxHeartbeats 1000000 in
theorem close_any (sb : Nat) (id : Int) (g : G) (w : World) (m : Mem) (hm : Has w m) (hr : SRep m sb g) (hG : GlobOk m) (h0 : ¬ FP sb g 0) (hn : g.n ≤ 999999) :
    Calls Tryz.prog 15 #[.pointer (some ⟨sb, 0, none⟩), .int .i64 id] w
      (Ans w (OpR m sb g (fun _ => False) (A.withA g.abs id () (closeF (id - 1).toNat)) (fun _ _ => True))) := by
  have hfr := hm.fresh (Nat.le_refl w.heap.size)
  have h1 := hm.alloc (.cells #[.pointer (some ⟨sb, 0, none⟩)] 25)
  have l1 := Mem.le_set m (.cells #[.pointer (some ⟨sb, 0, none⟩)] 25) hfr
  have hfr2 := h1.fresh (Nat.le_refl _)
  have h2 := h1.alloc (.cells #[.int .i64 id] 3)
  have l2 := Mem.le_set _ (.cells #[.int .i64 id] 3) hfr2
  have hsz : (w.alloc (.cells #[.pointer (some ⟨sb, 0, none⟩)] 25)).heap.size = w.heap.size + 1 := by simp
  rw [hsz] at h2 l2 hfr2
  have l12 := Mem.le_trans l1 l2
  have hnsb : sb ≠ w.heap.size := Ne.symm (Mem.ne_of_none hfr hr.store)
  have hnsb2 : sb ≠ w.heap.size + 1 := Ne.symm (Mem.ne_of_none hfr2 (l1 _ _ hr.store))
  have hW := with_op () (closeF (id - 1).toNat) (fun _ _ => True) (fun _ => False) sb id g 48 #[.pointer (some ⟨w.heap.size, 0, none⟩), .pointer (some ⟨w.heap.size + 1, 0, none⟩)] _ _ h2 (hr.le l12) (hG.le l12) h0 (fun h => h) hn enters_close1
    (fun k h hk hid w1 m1 l3 hw1 hr1 => by
      have hb1 : BoxS m1 w.heap.size sb := l3 _ _ (by
        rw [Mem.set_ne _ _ (Ne.symm hnsb), Mem.set_ne _ _ (by omega)]
        exact Mem.set_same _ _ _)
      have hb2 : BoxI m1 (w.heap.size + 1) id := l3 _ _ (by
        rw [Mem.set_ne _ _ (Ne.symm hnsb2)]
        exact Mem.set_same _ _ _)
      have hk' : (id - 1).toNat = k := by omega
      rw [hk']
      exact close1_any sb k w.heap.size (w.heap.size + 1) id g.tick h g.now w1 m1 hw1 hr1 hk hid hb1 hb2)
    (fun _ _ => trivial)
  have HW := Lib.hid hW
  have L12 := Lib.hid l12
  clear hm hr hG h1 h2 l1 l2 l12 hW hfr hfr2 hnsb hnsb2
  go_enter Tryz.func15, Tryz.ntmps15
  go_wp2_with fail
  refine HW.out.mono ?_
  rintro e w2 ⟨x, m2, rfl, h2, n2, hx⟩
  have H2 := Lib.hid h2
  have N2 := Lib.hid n2
  have HX := Lib.hid hx
  clear h2 n2 hx
  go_wp2_with fail
  go_ret
  exact ⟨x, m2, rfl, H2.out, (((Env.refl w).alloc _).alloc _).trans N2.out, HX.out.ahead L12.out (fun _ h => h.elim) (fun _ => trivial)⟩
end Go.Proofs.YtcdmdkgiabfbeaaGreatDoor

/-
  The document's operations on an open file: Flush, Close, Size, Position, Seek; and Status. (printed by ref_gen.py)
-/
namespace Go.Proofs.YtcdmdkgiabfbeaaGreatDoor
open Go.RowKit

set_option maxHeartbeats 1000000 in
set_option maxRecDepth 100000 in
theorem flush_ref (rb : Nat) (id : Int) (r : RG) (w : World) (m : Mem) (hm : Has w m) (hr : RR m rb r) (hn : r.n ≤ 999999) :
    Calls Tryz.prog 72 #[.pointer (some ⟨rb, 0, none⟩), .int .i64 id] w
      (Ans w (ROpR m rb r (A.withA r.abs id () flushF) (fun _ _ => True))) := by
  have HBG := Lib.hid (begun_ref rb r id w m hm hr hn)
  have HR := Lib.hid hr
  have HT := Lib.hid hr.tick
  have FT := Lib.hid (RR.frTick m rb r)
  clear hm hr
  go_enter Tryz.func72, Tryz.ntmps72
  go_wp2_with fail
  refine HBG.out.mono ?_
  rintro e w1 ⟨rfl, h1, n1⟩
  have H1 := Lib.hid h1
  have N1 := Lib.hid n1
  clear h1 n1 HBG
  rcases HR.out.begun id with ⟨hx, hW⟩ | ⟨hx, k, o, f, hid, hk1, hk2, ho, hof, hf, hfn, hW⟩
  · go_wp2_with fail
    go_ret
    rw [hW]
    exact ⟨_, _, rfl, H1.out, N1.out, HR.out.early _ _ _ trivial⟩
  · have HE := Lib.hid (HR.out.early 0 () (fun _ _ => True) trivial)
    have HW := Lib.hid hW
    rw [hx]
    clear hid hW hx
    go_wp2_with fail
    go_ret
    rw [HW.out]
    exact ⟨_, _, rfl, H1.out, N1.out, HE.out⟩

set_option maxHeartbeats 1000000 in
set_option maxRecDepth 100000 in
theorem close_ref (rb : Nat) (id : Int) (r : RG) (w : World) (m : Mem) (hm : Has w m) (hr : RR m rb r) (hn : r.n ≤ 999999) :
    Calls Tryz.prog 57 #[.pointer (some ⟨rb, 0, none⟩), .int .i64 id] w
      (Ans w (ROpR m rb r (A.withA r.abs id () (closeF (id - 1).toNat)) (fun _ _ => True))) := by
  have HBG := Lib.hid (begun_ref rb r id w m hm hr hn)
  have HR := Lib.hid hr
  have HT := Lib.hid hr.tick
  have FT := Lib.hid (RR.frTick m rb r)
  clear hm hr
  go_enter Tryz.func57, Tryz.ntmps57
  go_wp2_with fail
  refine HBG.out.mono ?_
  rintro e w1 ⟨rfl, h1, n1⟩
  have H1 := Lib.hid h1
  have N1 := Lib.hid n1
  clear h1 n1 HBG
  rcases HR.out.begun id with ⟨hx, hW⟩ | ⟨hx, k, o, f, hid, hk1, hk2, ho, hof, hf, hfn, hW⟩
  · have HE := Lib.hid (HR.out.early (begX r.abs id) () (fun _ _ => True) trivial)
    have HW := Lib.hid hW
    clear hW
    obtain ⟨x, hxx⟩ : ∃ x, begX r.abs id = x := ⟨_, rfl⟩
    rw [hxx] at hx
    have HXX := Lib.hid hxx
    rw [hxx] at HE
    rw [hxx]
    clear hxx
    have hb : (x == 0) = false := by simpa using hx
    go_wp2_with fail
    go_ret
    rw [HW.out, HXX.out]
    exact ⟨_, _, rfl, H1.out, N1.out, HE.out⟩
  · subst hid
    obtain ⟨m1, hm1⟩ : ∃ m1, m.set rb (rstoreObj r.tick) = m1 := ⟨_, rfl⟩
    rw [hm1] at H1 HT FT
    clear hm1
    rw [hx]
    have HW := Lib.hid hW
    clear hW hx
    obtain ⟨ob, ocap, hov, hat⟩ := HT.out.rep.atO
    have hfz := HT.out.rep.frozO hov H1.out
    obtain ⟨c1, olt, hat⟩ := hat w1 H1.out
    obtain ⟨e0, e1, e2⟩ := hat k o ho
    have rlt := H1.out.lt HT.out.rep.store
    have HOV := Lib.hid hov
    clear hov hat
    have SO := Lib.hid (HT.out.setO HOV.out (o := o) ho hk1 ⟨0, 0, 0⟩ 0 [.int .i64 0, .int .i64 0, .int .i64 0] (by decide) rfl (.inl rfl) (Nat.zero_le _) H1.out)
    have AB := Lib.hid (show ({ r.tick with O := r.tick.O.set k ⟨0, 0, 0⟩ } : RG).abs = r.abs.tick.setH (k - 1) none from by
      have h1 := abs_putO (r := r.tick) (k := k - 1) ⟨0, 0, 0⟩ (by rw [show k - 1 + 1 = k from by omega]; exact (List.getElem?_eq_some_iff.1 ho).1)
      rw [show k - 1 + 1 = k from by omega] at h1
      exact h1)
    clear ho
    have z0 := hfz (k * 3) (by omega)
    have z1 := hfz (k * 3 + 1) (by omega)
    have z2 := hfz (k * 3 + 2) (by omega)
    clear hfz
    go_wp2_with fail
    go_ret
    rw [HW.out]
    obtain ⟨m2, h2, r2, f2⟩ := SO.out
    refine ⟨_, m2, rfl, h2, ((N1.out.setCell _ _).setCell _ _).setCell _ _, _, r2, FT.out.trans f2, ?_, rfl, trivial⟩
    rw [AB.out]
    unfold closeF
    rw [show ((k : Int) - 1).toNat = k - 1 from by omega]

set_option maxHeartbeats 1000000 in
set_option maxRecDepth 100000 in
theorem size_ref (rb : Nat) (id : Int) (r : RG) (w : World) (m : Mem) (hm : Has w m) (hr : RR m rb r) (hn : r.n ≤ 999999) :
    Calls Tryz.prog 62 #[.pointer (some ⟨rb, 0, none⟩), .int .i64 id] w
      (AnsB w fun v m2 x => ROpR m rb r (A.withA r.abs id 0 sizeF) (fun _ n => v = .int .i64 n) m2 x) := by
  have HBG := Lib.hid (begun_ref rb r id w m hm hr hn)
  have HR := Lib.hid hr
  have HT := Lib.hid hr.tick
  have FT := Lib.hid (RR.frTick m rb r)
  clear hm hr
  go_enter Tryz.func62, Tryz.ntmps62
  go_wp2_with fail
  refine HBG.out.mono ?_
  rintro e w1 ⟨rfl, h1, n1⟩
  have H1 := Lib.hid h1
  have N1 := Lib.hid n1
  clear h1 n1 HBG
  rcases HR.out.begun id with ⟨hx, hW⟩ | ⟨hx, k, o, f, hid, hk1, hk2, ho, hof, hf, hfn, hW⟩
  · have HE := Lib.hid (HR.out.early (begX r.abs id) 0 (fun _ n => (.int .i64 0 : Value) = .int .i64 n) rfl)
    have HW := Lib.hid hW
    clear hW
    obtain ⟨x, hxx⟩ : ∃ x, begX r.abs id = x := ⟨_, rfl⟩
    rw [hxx] at hx
    have HXX := Lib.hid hxx
    rw [hxx] at HE
    rw [hxx]
    clear hxx
    have hb : (x == 0) = false := by simpa using hx
    go_wp2_with fail
    refine bodyPost_ret (v := .tuple #[.int .i64 0, .int .i64 x]) (by simp [results, Tryz.results62, go_sem]) rfl ?_
    rw [HW.out, HXX.out]
    exact ⟨_, _, _, rfl, H1.out, N1.out, HE.out⟩
  · subst hid
    obtain ⟨m1, hm1⟩ : ∃ m1, m.set rb (rstoreObj r.tick) = m1 := ⟨_, rfl⟩
    rw [hm1] at H1 HT FT
    clear hm1
    rw [hx]
    have HW := Lib.hid hW
    clear hW hx
    obtain ⟨ob, ocap, hov, hat⟩ := HT.out.rep.atO
    have hfz := HT.out.rep.frozO hov H1.out
    obtain ⟨c1, olt, hat⟩ := hat w1 H1.out
    obtain ⟨e0, e1, e2⟩ := hat k o ho
    have rlt := H1.out.lt HT.out.rep.store
    have HOV := Lib.hid hov
    clear hov hat
    obtain ⟨fb, fcap, hfv, hat0⟩ := HT.out.rep.at H1.out
    clear hat0
    obtain ⟨c0, flt, hatf⟩ := HT.out.rep.at' H1.out hfv
    have hfl : o.file < r.F.length := (List.getElem?_eq_some_iff.1 hf).1
    have hflen : r.F.length ≤ 101 + (r.n + 1) := HT.out.rep.flen
    obtain ⟨g0, g1⟩ := hatf o.file hfl
    change w1.cell? ⟨fb, o.file * 2, none⟩ = some (.string r.F[o.file].name) at g0
    change w1.cell? ⟨fb, o.file * 2 + 1, none⟩ = some r.F[o.file].bv at g1
    have hfe : r.F[o.file] = f := (List.getElem?_eq_some_iff.1 hf).2
    rw [hfe] at g0 g1
    obtain ⟨ba, bc, hbv, hbc⟩ := (HT.out.rep.bytes f (List.mem_of_getElem? hf)).lenV
    have hbl := HT.out.rep.bsz f (List.mem_of_getElem? hf)
    rw [hbv] at g1
    have HFV := Lib.hid hfv
    have HBV := Lib.hid hbv
    change w1.cell? ⟨rb, 0, none⟩ = some (.slice (some ⟨fb, 0, none⟩) r.F.length fcap) at c0
    clear hatf hfe hfv hbv
    have HO := Lib.hid ho
    have HF := Lib.hid hf
    have HFN := Lib.hid hfn
    obtain ⟨fl, hfe⟩ : ∃ fl, o.file = fl := ⟨_, rfl⟩
    obtain ⟨md, hmd⟩ : ∃ md, o.mode = md := ⟨_, rfl⟩
    obtain ⟨ps, hps⟩ : ∃ ps, o.pos = ps := ⟨_, rfl⟩
    have hpl := HT.out.rep.opos o (List.mem_of_getElem? ho)
    rw [hfe] at HF
    simp only [hfe, hmd, hps] at *
    have HFE := Lib.hid hfe
    have HMD := Lib.hid hmd
    have HPS := Lib.hid hps
    clear ho hf hfn hfe hmd hps
    clear hfz e1 e2 g0
    go_wp2_with fail
    go_quiet (fail)
    go_wp2_with fail
    refine bodyPost_ret (v := .tuple #[.int .i64 f.bs.length, .int .i64 0]) (by simp [results, Tryz.results62, go_sem]) rfl ?_
    rw [HW.out]
    refine ⟨_, _, _, rfl, H1.out.drewN _, N1.out.drewN _, r.tick, HT.out, FT.out, rfl, rfl, ?_⟩
    show Value.int .i64 f.bs.length = .int .i64 ((r.abs.bytes f.name).length : Int)
    rw [HR.out.bytesOf HF.out HFN.out]

set_option maxHeartbeats 1000000 in
set_option maxRecDepth 100000 in
theorem pos_ref (rb : Nat) (id : Int) (r : RG) (w : World) (m : Mem) (hm : Has w m) (hr : RR m rb r) (hn : r.n ≤ 999999) :
    Calls Tryz.prog 64 #[.pointer (some ⟨rb, 0, none⟩), .int .i64 id] w
      (AnsB w fun v m2 x => ROpR m rb r (A.withA r.abs id 0 posF) (fun _ n => v = .int .i64 n) m2 x) := by
  have HBG := Lib.hid (begun_ref rb r id w m hm hr hn)
  have HR := Lib.hid hr
  have HT := Lib.hid hr.tick
  have FT := Lib.hid (RR.frTick m rb r)
  clear hm hr
  go_enter Tryz.func64, Tryz.ntmps64
  go_wp2_with fail
  refine HBG.out.mono ?_
  rintro e w1 ⟨rfl, h1, n1⟩
  have H1 := Lib.hid h1
  have N1 := Lib.hid n1
  clear h1 n1 HBG
  rcases HR.out.begun id with ⟨hx, hW⟩ | ⟨hx, k, o, f, hid, hk1, hk2, ho, hof, hf, hfn, hW⟩
  · have HE := Lib.hid (HR.out.early (begX r.abs id) 0 (fun _ n => (.int .i64 0 : Value) = .int .i64 n) rfl)
    have HW := Lib.hid hW
    clear hW
    obtain ⟨x, hxx⟩ : ∃ x, begX r.abs id = x := ⟨_, rfl⟩
    rw [hxx] at hx
    have HXX := Lib.hid hxx
    rw [hxx] at HE
    rw [hxx]
    clear hxx
    have hb : (x == 0) = false := by simpa using hx
    go_wp2_with fail
    refine bodyPost_ret (v := .tuple #[.int .i64 0, .int .i64 x]) (by simp [results, Tryz.results64, go_sem]) rfl ?_
    rw [HW.out, HXX.out]
    exact ⟨_, _, _, rfl, H1.out, N1.out, HE.out⟩
  · subst hid
    obtain ⟨m1, hm1⟩ : ∃ m1, m.set rb (rstoreObj r.tick) = m1 := ⟨_, rfl⟩
    rw [hm1] at H1 HT FT
    clear hm1
    rw [hx]
    have HW := Lib.hid hW
    clear hW hx
    obtain ⟨ob, ocap, hov, hat⟩ := HT.out.rep.atO
    have hfz := HT.out.rep.frozO hov H1.out
    obtain ⟨c1, olt, hat⟩ := hat w1 H1.out
    obtain ⟨e0, e1, e2⟩ := hat k o ho
    have rlt := H1.out.lt HT.out.rep.store
    have HOV := Lib.hid hov
    clear hov hat
    have HO := Lib.hid ho
    have HF := Lib.hid hf
    have HFN := Lib.hid hfn
    obtain ⟨fl, hfe⟩ : ∃ fl, o.file = fl := ⟨_, rfl⟩
    obtain ⟨md, hmd⟩ : ∃ md, o.mode = md := ⟨_, rfl⟩
    obtain ⟨ps, hps⟩ : ∃ ps, o.pos = ps := ⟨_, rfl⟩
    have hpl := HT.out.rep.opos o (List.mem_of_getElem? ho)
    rw [hfe] at HF
    simp only [hfe, hmd, hps] at *
    have HFE := Lib.hid hfe
    have HMD := Lib.hid hmd
    have HPS := Lib.hid hps
    clear ho hf hfn hfe hmd hps
    clear hfz e0 e1
    go_wp2_with fail
    refine bodyPost_ret (v := .tuple #[.int .i64 ps, .int .i64 0]) (by simp [results, Tryz.results64, go_sem]) rfl ?_
    rw [HW.out]
    exact ⟨_, _, _, rfl, H1.out, N1.out, r.tick, HT.out, FT.out, rfl, rfl, rfl⟩

set_option maxHeartbeats 2000000 in
set_option maxRecDepth 100000 in
theorem seek_ref (rb : Nat) (id : Int) (n : Int) (r : RG) (w : World) (m : Mem) (hm : Has w m) (hr : RR m rb r) (hn : r.n ≤ 999999) :
    Calls Tryz.prog 65 #[.pointer (some ⟨rb, 0, none⟩), .int .i64 id, .int .i64 n] w
      (Ans w (ROpR m rb r (A.withA r.abs id () (seekF (id - 1).toNat n)) (fun _ _ => True))) := by
  have HBG := Lib.hid (begun_ref rb r id w m hm hr hn)
  have HR := Lib.hid hr
  have HT := Lib.hid hr.tick
  have FT := Lib.hid (RR.frTick m rb r)
  clear hm hr
  go_enter Tryz.func65, Tryz.ntmps65
  go_wp2_with fail
  refine HBG.out.mono ?_
  rintro e w1 ⟨rfl, h1, n1⟩
  have H1 := Lib.hid h1
  have N1 := Lib.hid n1
  clear h1 n1 HBG
  rcases HR.out.begun id with ⟨hx, hW⟩ | ⟨hx, k, o, f, hid, hk1, hk2, ho, hof, hf, hfn, hW⟩
  · have HE := Lib.hid (HR.out.early (begX r.abs id) () (fun _ _ => True) trivial)
    have HW := Lib.hid hW
    clear hW
    obtain ⟨x, hxx⟩ : ∃ x, begX r.abs id = x := ⟨_, rfl⟩
    rw [hxx] at hx
    have HXX := Lib.hid hxx
    rw [hxx] at HE
    rw [hxx]
    clear hxx
    have hb : (x == 0) = false := by simpa using hx
    go_wp2_with fail
    go_ret
    rw [HW.out, HXX.out]
    exact ⟨_, _, rfl, H1.out, N1.out, HE.out⟩
  · subst hid
    obtain ⟨m1, hm1⟩ : ∃ m1, m.set rb (rstoreObj r.tick) = m1 := ⟨_, rfl⟩
    rw [hm1] at H1 HT FT
    clear hm1
    rw [hx]
    have HW := Lib.hid hW
    clear hW hx
    obtain ⟨ob, ocap, hov, hat⟩ := HT.out.rep.atO
    have hfz := HT.out.rep.frozO hov H1.out
    obtain ⟨c1, olt, hat⟩ := hat w1 H1.out
    obtain ⟨e0, e1, e2⟩ := hat k o ho
    have rlt := H1.out.lt HT.out.rep.store
    have HOV := Lib.hid hov
    clear hov hat
    obtain ⟨fb, fcap, hfv, hat0⟩ := HT.out.rep.at H1.out
    clear hat0
    obtain ⟨c0, flt, hatf⟩ := HT.out.rep.at' H1.out hfv
    have hfl : o.file < r.F.length := (List.getElem?_eq_some_iff.1 hf).1
    have hflen : r.F.length ≤ 101 + (r.n + 1) := HT.out.rep.flen
    obtain ⟨g0, g1⟩ := hatf o.file hfl
    change w1.cell? ⟨fb, o.file * 2, none⟩ = some (.string r.F[o.file].name) at g0
    change w1.cell? ⟨fb, o.file * 2 + 1, none⟩ = some r.F[o.file].bv at g1
    have hfe : r.F[o.file] = f := (List.getElem?_eq_some_iff.1 hf).2
    rw [hfe] at g0 g1
    obtain ⟨ba, bc, hbv, hbc⟩ := (HT.out.rep.bytes f (List.mem_of_getElem? hf)).lenV
    have hbl := HT.out.rep.bsz f (List.mem_of_getElem? hf)
    rw [hbv] at g1
    have HFV := Lib.hid hfv
    have HBV := Lib.hid hbv
    change w1.cell? ⟨rb, 0, none⟩ = some (.slice (some ⟨fb, 0, none⟩) r.F.length fcap) at c0
    clear hatf hfe hfv hbv
    have SO : Hid (∀ p : Nat, p ≤ 262144 → ∀ wx, Has wx m1 → ∃ m2, Has (wx.setCells ob (k * 3 + 2) [.int .i64 p]) m2 ∧ RR m2 rb { r.tick with O := r.tick.O.set k { o with pos := p } } ∧ Fr m1 m2 (RFP rb r.tick) (RFP rb { r.tick with O := r.tick.O.set k { o with pos := p } })) :=
      Lib.hid (fun p hp wx hx => HT.out.setO HOV.out (o := o) ho hk1 { o with pos := p } 2 [.int .i64 p] (Nat.le_refl 3) rfl (.inr ⟨f, hf, hfn⟩) hp hx)
    have AB : Hid (∀ p : Nat, ({ r.tick with O := r.tick.O.set k { o with pos := p } } : RG).abs = r.abs.tick.setH (k - 1) (some (f.name, o.mode, p))) := Lib.hid (fun p => by
      have h1 := abs_putO (r := r.tick) (k := k - 1) { o with pos := p } (by rw [show k - 1 + 1 = k from by omega]; exact (List.getElem?_eq_some_iff.1 ho).1)
      rw [show k - 1 + 1 = k from by omega] at h1
      rw [h1]
      unfold roAbs
      rw [if_neg (show ¬ ({ o with pos := p } : RO).file = 0 from hof)]
      show A.setH _ _ ((r.F[o.file]?).map _) = _
      rw [hf]; rfl)
    have BS := Lib.hid (HR.out.bytesOf hf hfn)
    have HO := Lib.hid ho
    have HF := Lib.hid hf
    have HFN := Lib.hid hfn
    obtain ⟨fl, hfe⟩ : ∃ fl, o.file = fl := ⟨_, rfl⟩
    obtain ⟨md, hmd⟩ : ∃ md, o.mode = md := ⟨_, rfl⟩
    obtain ⟨ps, hps⟩ : ∃ ps, o.pos = ps := ⟨_, rfl⟩
    have hpl := HT.out.rep.opos o (List.mem_of_getElem? ho)
    rw [hfe] at HF
    simp only [hfe, hmd, hps] at *
    have HFE := Lib.hid hfe
    have HMD := Lib.hid hmd
    have HPS := Lib.hid hps
    clear ho hf hfn hfe hmd hps
    have z2 := hfz (k * 3 + 2) (by omega)
    clear hfz e1 g0
    by_cases hn0 : n < 0
    · go_wp2_with fail
      go_quiet (fail)
      go_wp2_with fail
      go_ret
      rw [HW.out]
      have hF : seekF ((k : Int) - 1).toNat n r.abs.tick (f.name, md, ps) r.now = (r.abs.tick, -36, ()) := by unfold seekF; rw [if_pos (.inl hn0)]
      rw [hF]
      exact ⟨_, _, rfl, H1.out.drewN _, N1.out.drewN _, r.tick, HT.out, FT.out, rfl, rfl, trivial⟩
    · have hd0 : decide (n < 0) = false := decide_eq_false hn0
      by_cases hn1 : (f.bs.length : Int) < n
      · go_wp2_with fail
        go_quiet (fail)
        go_wp2_with fail
        go_ret
        rw [HW.out]
        have hF : seekF ((k : Int) - 1).toNat n r.abs.tick (f.name, md, ps) r.now = (r.abs.tick, -36, ()) := by
          unfold seekF; rw [if_pos (.inr (by show ((r.abs.bytes f.name).length : Int) < n; rw [BS.out]; exact hn1))]
        rw [hF]
        exact ⟨_, _, rfl, H1.out.drewN _, N1.out.drewN _, r.tick, HT.out, FT.out, rfl, rfl, trivial⟩
      · obtain ⟨p, rfl⟩ : ∃ p : Nat, n = p := ⟨n.toNat, by omega⟩
        have hd1 : decide ((f.bs.length : Int) < p) = false := decide_eq_false hn1
        go_wp2_with fail
        go_quiet (fail)
        go_wp2_with fail
        go_ret
        rw [HW.out]
        obtain ⟨m2, h2, r2, f2⟩ := SO.out p (by omega) _ (H1.out.drewN nq)
        have hF : seekF ((k : Int) - 1).toNat p r.abs.tick (f.name, md, ps) r.now = (r.abs.tick.setH (k - 1) (some (f.name, md, p)), 0, ()) := by
          unfold seekF
          rw [if_neg (by
            rintro (h | h)
            · omega
            · change ((r.abs.bytes f.name).length : Int) < p at h
              rw [BS.out] at h; omega), show ((k : Int) - 1).toNat = k - 1 from by omega, show ((p : Int)).toNat = p from by omega]
        rw [hF]
        exact ⟨_, m2, rfl, h2, (N1.out.drewN _).setCell _ _, _, r2, FT.out.trans f2, AB.out p, rfl, trivial⟩

end Go.Proofs.YtcdmdkgiabfbeaaGreatDoor
