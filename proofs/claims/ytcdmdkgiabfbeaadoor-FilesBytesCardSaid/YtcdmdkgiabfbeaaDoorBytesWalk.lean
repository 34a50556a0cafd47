/-
  FilesBytes, the walk. (printed by bytes_gen.py)
-/
import Derived.Test.YtcdmdkgiabfbeaaDoorWant
namespace Go.Proofs.YtcdmdkgiabfbeaaDoor
open Go.RowKit

/-- The arguments in memory: the places; the parts, each a slice of bytes. -/
structure BArgs (m : Mem) (av pv : Value) (zs : List Int) (ps : List (Value × List UInt8)) : Prop where
  pl : ∃ a cap, av = .slice a zs.length cap ∧ (0 < zs.length → ∃ g o, a = some ⟨g, o, none⟩ ∧ Cells m g o (zs.map fun z => .int .i64 z))
  parts : ∃ a cap, pv = .slice a ps.length cap ∧ (0 < ps.length → ∃ g o, a = some ⟨g, o, none⟩ ∧ Cells m g o (ps.map (·.1)))
  wind : ∀ p ∈ ps, WindZ m p.1 p.2

/-- What a round of the law finds. -/
def BX (w : World) (m : Mem) (sb k : Nat) (wv : Value) (ws : List UInt8) (wr : World) : Prop :=
  ∃ mr gr pa pb, WS m sb gr mr wv ws ∧ Has wr mr ∧ Env w wr ∧ gr.abs = StB ws pa pb (2 + 5 * k) ∧ ws.length ≤ 2300
/-- .. and the loops in it: the file's bytes, the slice's. -/
def BY (w : World) (m : Mem) (sb : Nat) (bs : List UInt8) (pa pb n : Nat) (wv : Value) (ws : List UInt8) (wr : World) : Prop :=
  ∃ mr gr, WS m sb gr mr wv ws ∧ Has wr mr ∧ Env w wr ∧ gr.abs = StB bs pa pb n
def lenOf : Value → Nat | .slice _ n _ => n | _ => 0
theorem n_of {g : G} {bs : List UInt8} {pa pb n : Nat} (h : g.abs = StB bs pa pb n) (hn : n ≤ 999999) : g.n ≤ 999999 := by
  have h1 : g.abs.n = n := by rw [h]; rfl
  have h2 : g.n = n := h1
  omega
theorem pad_end {ws : List UInt8} {a j : Nat} (h1 : ws.length + j ≤ max ws.length a) (h2 : a ≤ ws.length + j) : ws ++ List.replicate j 0 = padTo ws a := by
  unfold padTo
  congr 2
  omega

theorem Cells.one {m : Mem} {g o : Nat} {xs : List Value} (h : Cells m g o xs) {w : World} (hm : Has w m) {k : Nat} (hk : k < xs.length) : w.cell? ⟨g, o + k, none⟩ = some xs[k] := by
  have hadd : ∀ j, (⟨g, o, none⟩ : Addr).add j = ⟨g, o + j, none⟩ := fun j => by unfold Addr.add; split <;> simp_all
  have := h.at hm k xs[k] (by simp [hk])
  rwa [hadd] at this
theorem Cells.lt {m : Mem} {g o : Nat} {xs : List Value} (h : Cells m g o xs) {w : World} (hm : Has w m) : g < w.heap.size := by
  obtain ⟨c, e, fz, h1, _⟩ := h
  exact hm.lt h1

theorem beq_strB (s : ByteArray) : (s == s) = true := by rw [bq]; simp
theorem new_none : newE [] 0 = 0 := by
  unfold newE scanE sizeE newE1
  simp

set_option maxHeartbeats 16000000 in
set_option maxRecDepth 100000 in
theorem bytes_any (av pv : Value) (zs : List Int) (ps : List (Value × List UInt8)) (w : World) (m : Mem) (hm : Has w m) (hG : GlobOk m) (hA : BArgs m av pv zs ps) :
    Calls Tryd.prog 4 #[av, pv] w (Post w m fun v _ => v = .bool true) := by
  obtain ⟨⟨aa, ac, rfl, hpl⟩, ⟨pa, pc, rfl, hpt⟩, hwi⟩ := hA
  have H := Lib.hid hm
  have HG := Lib.hid hG
  have HPL := Lib.hid hpl
  have HPT := Lib.hid hpt
  have HWI := Lib.hid hwi
  clear hm hG hpl hpt hwi
  have AW : Hid (∀ w1 m1, m.le m1 → Has w1 m1 → Env w w1 → Calls Tryd.prog 6 #[] w1 (Post w m fun v _ => v = .bool true)) := Lib.hid (fun w1 m1 l1 h1 n1 => by
    refine (awake_any w1 m1 h1 (HG.out.le l1)).mono ?_
    rintro e w2 ⟨v, m2, rfl, l2, h2, n2, rfl⟩
    exact Post.mk m2 (Mem.le_trans l1 l2) h2 (n1.trans n2) rfl)
  by_cases hz : 20 < (zs.length : Int)
  · go_enter Tryd.func4, Tryd.ntmps4
    go_wp2_with fail
    refine (AW.out _ _ (Mem.le_refl _) H.out (Env.refl _)).mono ?_
    rintro e w9 ⟨v, m9, rfl, l9, h9, n9, rfl⟩
    have P9 := Lib.hid (Post.mk (R := fun v _ => v = .bool true) m9 l9 h9 n9 rfl)
    clear l9 h9 n9
    go_wp2_with fail
    go_ret
    exact P9.out
  · by_cases hp : 20 < (ps.length : Int)
    · go_enter Tryd.func4, Tryd.ntmps4
      go_wp2_with fail
      refine (AW.out _ _ (Mem.le_refl _) H.out (Env.refl _)).mono ?_
      rintro e w9 ⟨v, m9, rfl, l9, h9, n9, rfl⟩
      have P9 := Lib.hid (Post.mk (R := fun v _ => v = .bool true) m9 l9 h9 n9 rfl)
      clear l9 h9 n9
      go_wp2_with fail
      go_ret
      exact P9.out
    · go_enter Tryd.func4, Tryd.ntmps4
      go_wp2_with fail
      refine (new_any (.slice none 0 0) (.slice none 0 0) [] [] w m H.out (.inl ⟨rfl, rfl⟩) (.inl ⟨rfl, rfl⟩) (by simp) (by simp) (by simp)).mono ?_
      rintro e w2 ⟨v, m2, rfl, l2, h2, n2, hv⟩
      obtain ⟨sb, g, rfl, ow, ha⟩ := (hv.own l2 new_none)
      have OW := Lib.hid ow
      have H2 := Lib.hid h2
      have N2 := Lib.hid n2
      have HA := Lib.hid ha
      clear l2 h2 n2 hv ow ha
      go_wp2_with fail
      have hn0 : g.n ≤ 999999 := by
        have h : g.abs.n = 0 := by rw [HA.out]; rfl
        have h' : g.n = 0 := h
        omega
      refine (create_any sb ⟨#[102]⟩ 3 g w2 m2 H2.out OW.out.rep (OW.out.glob HG.out) (OW.out.zero HG.out) hn0).mono ?_
      rintro e w3 ⟨v, x, m3, rfl, h3, n3, hop⟩
      rw [HA.out, StB_create] at hop
      obtain ⟨g3, ow3, ha3, rfl, rfl⟩ := OW.out.step hop
      have OW3 := Lib.hid ow3
      have H3 := Lib.hid h3
      have N3 := Lib.hid (N2.out.trans n3)
      have HA3 := Lib.hid ha3
      clear h3 n3 hop ow3 ha3 hn0
      go_wp2_with fail
      have hn3 : g3.n ≤ 999999 := by
        have h : g3.abs.n = 1 := by rw [HA3.out]; rfl
        have h' : g3.n = 1 := h
        omega
      refine (open_any sb ⟨#[102]⟩ 1 g3 w3 m3 H3.out OW3.out.rep (OW3.out.glob HG.out) (OW3.out.zero HG.out) hn3).mono ?_
      rintro e w4 ⟨v, x, m4, rfl, h4, n4, hop⟩
      rw [HA3.out, StB_open] at hop
      obtain ⟨g4, ow4, ha4, rfl, rfl⟩ := OW3.out.step hop
      have HX4 : Hid (BX w m sb 0 (.slice none 0 0) [] w4) := Lib.hid ⟨m4, g4, 0, 0, WS.nil ow4, h4, N3.out.trans n4, ha4, by simp⟩
      clear h4 n4 hop ow4 ha4 hn3 OW3 H3 N3 HA3 OW H2 N2 HA
      go_wp2_with fail
      go_loopw [11, 12] (fun v i wr => ∃ (k : Nat) (ws : List UInt8), k ≤ zs.length ∧ k ≤ ps.length ∧ i = .int .i64 k ∧ Hid (BX w m sb k v ws wr)) (fun _ i _ => zs.length - (intOf i).toNat)
      case atStart => exact ⟨0, [], Nat.zero_le _, Nat.zero_le _, rfl, HX4⟩
      case round =>
        obtain ⟨k, ws, hkz, hkp, rfl, HX⟩ := hrel
        by_cases hlz : k < zs.length
        · by_cases hlp : k < ps.length
          · obtain ⟨mr, gr, pa, pb, wsr, hwr, nr, har, hwl⟩ := HX.out
            obtain ⟨ga, oa, rfl, ca⟩ := HPL.out (by omega)
            obtain ⟨gp, op, rfl, cp⟩ := HPT.out (by omega)
            have CA : Hid (∀ wx mx, m.le mx → Has wx mx → wx.cell? ⟨ga, oa + k, none⟩ = some (.int .i64 zs[k]) ∧ ga < wx.heap.size) := Lib.hid (fun wx mx l h => ⟨by rw [Cells.one (ca.le l) h (by simpa using hlz)]; simp, (ca.le l).lt h⟩)
            have CP : Hid (∀ wx mx, m.le mx → Has wx mx → wx.cell? ⟨gp, op + k, none⟩ = some ps[k].1 ∧ gp < wx.heap.size) := Lib.hid (fun wx mx l h => ⟨by rw [Cells.one (cp.le l) h (by simpa using hlp)]; simp, (cp.le l).lt h⟩)
            have wi := HWI.out _ (List.getElem_mem hlp)
            obtain ⟨z, hzk⟩ : ∃ z, zs[k] = z := ⟨_, rfl⟩
            obtain ⟨⟨pv', ys⟩, hpk⟩ : ∃ p, ps[k] = p := ⟨_, rfl⟩
            rw [hzk] at CA
            rw [hpk] at CP wi
            simp only at CP wi
            obtain ⟨ya, yc, rfl⟩ := wi.shape
            obtain ⟨e0, t0⟩ := CA.out wr mr wsr.own.le hwr
            obtain ⟨e1, t1⟩ := CP.out wr mr wsr.own.le hwr
            obtain ⟨va, vc, rfl, _⟩ := wsr.row.lenV
            have WI := Lib.hid wi
            have WSR := Lib.hid wsr
            have HWR := Lib.hid hwr
            have NR := Lib.hid nr
            have HAR := Lib.hid har
            clear wi hzk hpk ca cp wsr hwr nr har HX
            by_cases hz0 : z < 0
            · go_wp2_with fail
              refine (AW.out _ _ WSR.out.own.le HWR.out NR.out).mono ?_
              rintro e w9 ⟨v, m9, rfl, l9, h9, n9, rfl⟩
              have P9 := Lib.hid (Post.mk (R := fun v _ => v = .bool true) m9 l9 h9 n9 rfl)
              clear l9 h9 n9
              go_wp2_with fail
              go_ret
              exact P9.out
            · by_cases hz1 : 2000 < z
              · go_wp2_with fail
                refine (AW.out _ _ WSR.out.own.le HWR.out NR.out).mono ?_
                rintro e w9 ⟨v, m9, rfl, l9, h9, n9, rfl⟩
                have P9 := Lib.hid (Post.mk (R := fun v _ => v = .bool true) m9 l9 h9 n9 rfl)
                clear l9 h9 n9
                go_wp2_with fail
                go_ret
                exact P9.out
              · by_cases hy : 300 < (ys.length : Int)
                · go_wp2_with fail
                  refine (AW.out _ _ WSR.out.own.le HWR.out NR.out).mono ?_
                  rintro e w9 ⟨v, m9, rfl, l9, h9, n9, rfl⟩
                  have P9 := Lib.hid (Post.mk (R := fun v _ => v = .bool true) m9 l9 h9 n9 rfl)
                  clear l9 h9 n9
                  go_wp2_with fail
                  go_ret
                  exact P9.out
                · obtain ⟨a, rfl⟩ : ∃ a : Nat, z = a := ⟨z.toNat, by omega⟩
                  go_wp2_with fail
                  go_loopw [11] (fun v wr => ∃ (j : Nat) (xa : Option Addr) (xc : Nat), v = .slice xa (ws.length + j) xc ∧ ws.length + j ≤ max ws.length a ∧ Hid (BY w m sb ws pa pb (2 + 5 * k) v (ws ++ List.replicate j 0) wr)) (fun v _ => a - lenOf v)
                  case atStart => exact ⟨0, va, vc, rfl, by omega, Lib.hid ⟨mr, gr, by simpa using WSR.out, HWR.out, NR.out, HAR.out⟩⟩
                  case round =>
                    clear e0 t0 e1 t1 WSR HWR NR HAR
                    obtain ⟨j, xa, xc, rfl, hj, HY⟩ := hrel
                    obtain ⟨mr, gr, wsr, hwr, nr, har⟩ := HY.out
                    obtain ⟨e0, t0⟩ := CA.out _ mr wsr.own.le hwr
                    obtain ⟨e1, t1⟩ := CP.out _ mr wsr.own.le hwr
                    by_cases hlt : ((ws.length + j : Nat) : Int) < (a : Int)
                    · have hfr := hwr.fresh (Nat.le_refl _)
                      have lk := Mem.le_set mr (.cells #[.int .u8 0] 5) hfr
                      obtain ⟨v', w5, m5, hrun, n5, h5, ws5⟩ := (wsr.grow lk).app 0 33 _ _ (hwr.alloc (.cells #[.int .u8 0] 5)) (Cells.whole (Mem.set_same _ _ _) rfl) (by simp; omega)
                      have hl5 : (ws ++ List.replicate j 0 ++ [(0 : UInt8)]).length = ws.length + (j + 1) := by simp [Nat.add_assoc]
                      have wl5 := ws5.row.lenV
                      rw [hl5] at wl5
                      obtain ⟨xa', xc', rfl, _⟩ := wl5
                      have W5 := Lib.hid ws5
                      have H5 := Lib.hid h5
                      have N5 := Lib.hid ((nr.alloc (.cells #[.int .u8 0] 5)).trans n5)
                      have HAR := Lib.hid har
                      clear ws5 h5 n5 wsr hwr nr har HY hfr lk hl5
                      go_wp2_with (at_builtin; refine wpList_b2 rfl .append Builtin.append_ (fun _ _ _ _ => rfl) _ _ _ _ rfl rfl rfl hrun ?_)
                      go_roundw
                      case rel => exact ⟨j + 1, xa', xc', rfl, by omega, Lib.hid ⟨m5, gr, by rw [padTo_step]; exact W5.out, H5.out, N5.out, HAR.out⟩⟩
                      case measure => simp [lenOf]; omega
                    · have hpe := pad_end hj (by omega)
                      rw [hpe] at wsr
                      have hL : ws.length + j = (padTo ws a).length := by rw [← hpe]; simp
                      generalize hL1 : ws.length + j = L1 at *
                      obtain ⟨ws1, hw1⟩ : ∃ l, padTo ws a = l := ⟨_, rfl⟩
                      have RZ : Hid (resz ws ws1.length = ws1) := Lib.hid (by rw [← hw1]; exact resz_pad ws a)
                      have hal : a ≤ ws1.length := by rw [← hw1, padTo_length]; omega
                      have h1l : ws1.length ≤ 2300 := by rw [← hw1, padTo_length]; omega
                      rw [hw1] at wsr hL
                      subst hL
                      have hk20 : k ≤ 20 := by omega
                      have RS := Lib.hid (resize_any sb 1 (ws1.length : Int) gr _ mr hwr wsr.own.rep (wsr.own.glob HG.out) (wsr.own.zero HG.out) (n_of har (by omega)))
                      have WSR := Lib.hid wsr
                      have NR := Lib.hid nr
                      have HAR := Lib.hid har
                      clear hpe hL1 hj hlt hw1 wsr hwr nr har HY
                      go_wp2_with fail
                      refine RS.out.mono ?_
                      rintro e w6 ⟨x, m6, rfl, h6, n6, hop⟩
                      rw [HAR.out, StB_resize _ _ _ _ _ (by omega), RZ.out] at hop
                      obtain ⟨g6, ws6, ha6, rfl, _⟩ := WSR.out.step hop
                      have NR6 := Lib.hid (NR.out.trans n6)
                      have WS6 := Lib.hid ws6
                      have H6 := Lib.hid h6
                      have HA6 := Lib.hid ha6
                      clear e0 t0 e1 t1 hop n6 RS WSR NR HAR RZ ws6 h6 ha6
                      obtain ⟨e0, t0⟩ := CA.out _ _ WS6.out.own.le H6.out
                      obtain ⟨e1, t1⟩ := CP.out _ _ WS6.out.own.le H6.out
                      go_wp2_with fail
                      refine (seek_any sb 1 (a : Int) g6 _ m6 H6.out WS6.out.own.rep (WS6.out.own.glob HG.out) (WS6.out.own.zero HG.out) (n_of HA6.out (by omega))).mono ?_
                      rintro e w7 ⟨x, m7, rfl, h7, n7, hop⟩
                      rw [HA6.out] at hop
                      change OpR m6 sb g6 _ (A.withA _ 1 () (seekF (1 - 1 : Int).toNat (a : Int))) _ m7 x at hop
                      rw [StB_seekA _ _ _ _ _ hal] at hop
                      obtain ⟨g7, ws7, ha7, rfl, _⟩ := WS6.out.step hop
                      have NR7 := Lib.hid (NR6.out.trans n7)
                      have WS7 := Lib.hid ws7
                      have H7 := Lib.hid h7
                      have HA7 := Lib.hid ha7
                      clear e0 t0 e1 t1 hop n7 WS6 NR6 H6 HA6 ws7 h7 ha7
                      obtain ⟨e0, t0⟩ := CA.out _ _ WS7.out.own.le H7.out
                      obtain ⟨e1, t1⟩ := CP.out _ _ WS7.out.own.le H7.out
                      have hna : Hid (0 < ys.length → ∀ b, (Value.slice ya ys.length yc).ownBlk = some b → ¬ FP sb g7 b) := Lib.hid (fun hp b hb hfp => by
                        rcases WI.out with ⟨_, _, _, h⟩ | ⟨yg, yo, ycap, h1, _, c, e, fz, h4, _⟩
                        · simp [h] at hp
                        · rw [h1] at hb
                          obtain rfl : yg = b := Option.some.inj hb
                          have := WS7.out.own.new _ hfp
                          rw [h4] at this; cases this)
                      go_wp2_with fail
                      refine (write_any sb 1 (.slice ya ys.length yc) ys g7 _ m7 H7.out WS7.out.own.rep (WS7.out.own.glob HG.out) (WS7.out.own.zero HG.out) (n_of HA7.out (by omega)) (WI.out.le WS7.out.own.le) hna.out (by omega)).mono ?_
                      rintro e w8 ⟨x, m8, rfl, h8, n8, hop⟩
                      rw [HA7.out] at hop
                      change OpR m7 sb g7 _ (A.withA _ 1 () (writeF (1 - 1 : Int).toNat ys)) _ m8 x at hop
                      rw [StB_write _ _ _ _ _ (by omega), over_wr hal] at hop
                      obtain ⟨g8, ws8, ha8, rfl, _⟩ := WS7.out.step hop
                      have HY8 : Hid (BY w m sb (over ws1 a ys ys.length) (a + ys.length) pb (2 + 5 * k + 3) (.slice xa ws1.length xc) ws1 w8) := Lib.hid ⟨m8, g8, ws8, h8, NR7.out.trans n8, ha8⟩
                      clear e0 t0 e1 t1 hop n8 WS7 NR7 H7 HA7 ws8 h8 ha8 hna
                      go_wp2_with fail
                      go_loopw [11, 13] (fun v i wr => ∃ (q : Nat) (xa : Option Addr) (xc : Nat), q ≤ ys.length ∧ i = .int .i64 q ∧ v = .slice xa (max ws1.length (a + q)) xc ∧ Hid (BY w m sb (over ws1 a ys ys.length) (a + ys.length) pb (2 + 5 * k + 3) v (over ws1 a ys q) wr)) (fun _ i _ => ys.length - (intOf i).toNat)
                      case atStart => exact ⟨0, xa, xc, Nat.zero_le _, rfl, by rw [show max ws1.length (a + 0) = ws1.length from by omega], by rw [over_zero]; exact HY8⟩
                      case round =>
                        clear HY8
                        obtain ⟨q, xa, xc, hq, rfl, rfl, HY⟩ := hrel
                        obtain ⟨mr, gr, wsr, hwr, nr, har⟩ := HY.out
                        obtain ⟨e0, t0⟩ := CA.out _ mr wsr.own.le hwr
                        obtain ⟨e1, t1⟩ := CP.out _ mr wsr.own.le hwr
                        by_cases hqy : q < ys.length
                        · obtain ⟨gy, oy, rfl, cy⟩ : ∃ gy oy, ya = some ⟨gy, oy, none⟩ ∧ Cells m gy oy (ys.map byteV) := by
                            rcases WI.out with ⟨_, _, _, h⟩ | ⟨yg, yo, ycap, h1, _, h4⟩
                            · simp [h] at hqy
                            · simp only [Value.slice.injEq] at h1; exact ⟨yg, yo, h1.1, h4⟩
                          have yq := Cells.one (cy.le wsr.own.le) hwr (k := q) (by simpa using hqy)
                          have ty := Cells.lt (cy.le wsr.own.le) hwr
                          have wk : IntKind.i64.wrap ((a : Int) + (q : Int)) = (a : Int) + q := by simp [IntKind.wrap, IntKind.signed, IntKind.bits]; omega
                          have hol := over_length (bs := ws1) (ys := ys) (p := a) (k := q) hal hq
                          by_cases hin : a + q < ws1.length
                          · have hmx : max ws1.length (a + q) = ws1.length := by omega
                            have hmx2 : max ws1.length (a + (q + 1)) = ws1.length := by omega
                            have HST := Lib.hid (over_set hal hqy hin)
                            rw [hmx] at wsr hol ⊢
                            obtain ⟨xb, rfl⟩ : ∃ xb, xa = some ⟨xb, 0, none⟩ := by
                              obtain ⟨_, ⟨h, h0⟩ | ⟨g, cap, cur, fz, h, _⟩⟩ := wsr.row
                              · rw [hol] at h0; omega
                              · simp only [Value.slice.injEq] at h; exact ⟨g, h.1⟩
                            obtain ⟨c0, f0, _⟩ := wsr.put ys[q] (a + q) (by omega) _ hwr
                            obtain ⟨m9, h9, ws9⟩ := (wsr.put ys[q] (a + q) (by omega) _ hwr.drew).2.2
                            rw [HST.out] at ws9
                            have hcond : (a : Int) + (q : Int) < (ws1.length : Int) := by omega
                            have hge : 0 ≤ (a : Int) + (q : Int) := by omega
                            have htn : ((a : Int) + (q : Int)).toNat = a + q := by omega
                            generalize (over ws1 a ys q)[a + q] = y0 at *
                            simp only [List.getElem_map] at yq
                            generalize ys[q] = yb at *
                            simp only [byteV] at yq c0 h9
                            have H9 := Lib.hid h9
                            have WS9 := Lib.hid ws9
                            have NR9 := Lib.hid nr
                            have HAR9 := Lib.hid har
                            clear HY h9 ws9 wsr hwr nr har HST cy
                            go_wp2_with fail
                            refine wp_region_K 15 (fun w' => w'.cell? ⟨ga, oa + k, none⟩ = some (.int .i64 (a : Int)) ∧ w'.cell? ⟨gp, op + k, none⟩ = some (.slice (some ⟨gy, oy, none⟩) ys.length yc) ∧ w'.cell? ⟨gy, oy + q, none⟩ = some (.int .u8 (yb.toNat : Int))) (by kernel_rfl) ?_
                            have hS : (fun w' : World => w'.cell? ⟨ga, oa + k, none⟩ = some (.int .i64 (a : Int)) ∧ w'.cell? ⟨gp, op + k, none⟩ = some (.slice (some ⟨gy, oy, none⟩) ys.length yc) ∧ w'.cell? ⟨gy, oy + q, none⟩ = some (.int .u8 (yb.toNat : Int))) wr.drew := ⟨e0, e1, yq⟩
                            refine wpAnyK_take (i := 0) (v := ?_) rfl (by kernel_rfl) (by kernel_rfl) (by kernel_rfl) (by kernel_rfl) (fun _ _ _ h => h) (Or.inl ⟨by rfl, ?_⟩) hS ?_
                            rotate_left
                            · intro w0 hS0; obtain ⟨q0, q1, q2⟩ := hS0; go_simp; try with_reducible rfl
                            simp only [Act.put, List.setIfInBounds_toArray, List.set_cons_zero, List.set_cons_succ, List.getElem_toArray, List.getElem_cons_succ, List.getElem_cons_zero]
                            refine wpAnyK_take (i := 1) (v := ?_) rfl (by kernel_rfl) (by kernel_rfl) (by kernel_rfl) (by kernel_rfl) (fun _ _ _ h => h) (Or.inl ⟨by rfl, ?_⟩) hS ?_
                            rotate_left
                            · intro w0 hS0; obtain ⟨q0, q1, q2⟩ := hS0; go_simp; try with_reducible rfl
                            simp only [Act.put, List.setIfInBounds_toArray, List.set_cons_zero, List.set_cons_succ, List.getElem_toArray, List.getElem_cons_succ, List.getElem_cons_zero]
                            refine wpAnyK_take (i := 2) (v := ?_) rfl (by kernel_rfl) (by kernel_rfl) (by kernel_rfl) (by kernel_rfl) (fun _ _ _ h => h) (Or.inl ⟨by rfl, ?_⟩) hS ?_
                            rotate_left
                            · intro w0 hS0; obtain ⟨q0, q1, q2⟩ := hS0; go_simp; try with_reducible rfl
                            simp only [Act.put, List.setIfInBounds_toArray, List.set_cons_zero, List.set_cons_succ, List.getElem_toArray, List.getElem_cons_succ, List.getElem_cons_zero]
                            refine wpAnyK_take (i := 3) (v := ?_) rfl (by kernel_rfl) (by kernel_rfl) (by kernel_rfl) (by kernel_rfl) (fun _ _ _ h => h) (Or.inl ⟨by rfl, ?_⟩) hS ?_
                            rotate_left
                            · intro w0 hS0; obtain ⟨q0, q1, q2⟩ := hS0; go_simp; try with_reducible rfl
                            simp only [Act.put, List.setIfInBounds_toArray, List.set_cons_zero, List.set_cons_succ, List.getElem_toArray, List.getElem_cons_succ, List.getElem_cons_zero]
                            refine wpAnyK_take (i := 4) (v := ?_) rfl (by kernel_rfl) (by kernel_rfl) (by kernel_rfl) (by kernel_rfl) (fun _ _ _ h => h) (Or.inl ⟨by rfl, ?_⟩) hS ?_
                            rotate_left
                            · intro w0 hS0; obtain ⟨q0, q1, q2⟩ := hS0; go_simp; try with_reducible rfl
                            simp only [Act.put, List.setIfInBounds_toArray, List.set_cons_zero, List.set_cons_succ, List.getElem_toArray, List.getElem_cons_succ, List.getElem_cons_zero]
                            refine wpAnyK_take (i := 5) (v := ?_) rfl (by kernel_rfl) (by kernel_rfl) (by kernel_rfl) (by kernel_rfl) (fun _ _ _ h => h) (Or.inl ⟨by rfl, ?_⟩) hS ?_
                            rotate_left
                            · intro w0 hS0; obtain ⟨q0, q1, q2⟩ := hS0; go_simp; try with_reducible rfl
                            simp only [Act.put, List.setIfInBounds_toArray, List.set_cons_zero, List.set_cons_succ, List.getElem_toArray, List.getElem_cons_succ, List.getElem_cons_zero]
                            refine wpAnyK_take (i := 6) (v := ?_) rfl (by kernel_rfl) (by kernel_rfl) (by kernel_rfl) (by kernel_rfl) (fun _ _ _ h => h) (Or.inl ⟨by rfl, ?_⟩) hS ?_
                            rotate_left
                            · intro w0 hS0; obtain ⟨q0, q1, q2⟩ := hS0; go_simp; try with_reducible rfl
                            simp only [Act.put, List.setIfInBounds_toArray, List.set_cons_zero, List.set_cons_succ, List.getElem_toArray, List.getElem_cons_succ, List.getElem_cons_zero]
                            refine wpAnyK_take (i := 7) (v := ?_) rfl (by kernel_rfl) (by kernel_rfl) (by kernel_rfl) (by kernel_rfl) (fun _ _ _ h => h) (Or.inl ⟨by rfl, ?_⟩) hS ?_
                            rotate_left
                            · intro w0 hS0; obtain ⟨q0, q1, q2⟩ := hS0; go_simp; try with_reducible rfl
                            simp only [Act.put, List.setIfInBounds_toArray, List.set_cons_zero, List.set_cons_succ, List.getElem_toArray, List.getElem_cons_succ, List.getElem_cons_zero]
                            refine wpAnyK_take (i := 8) (v := ?_) rfl (by kernel_rfl) (by kernel_rfl) (by kernel_rfl) (by kernel_rfl) (fun _ _ _ h => h) (Or.inl ⟨by rfl, ?_⟩) hS ?_
                            rotate_left
                            · intro w0 hS0; obtain ⟨q0, q1, q2⟩ := hS0; go_simp; try with_reducible rfl
                            simp only [Act.put, List.setIfInBounds_toArray, List.set_cons_zero, List.set_cons_succ, List.getElem_toArray, List.getElem_cons_succ, List.getElem_cons_zero]
                            refine wpAnyK_take (i := 9) (v := ?_) rfl (by kernel_rfl) (by kernel_rfl) (by kernel_rfl) (by kernel_rfl) (fun _ _ _ h => h) (Or.inl ⟨by rfl, ?_⟩) hS ?_
                            rotate_left
                            · intro w0 hS0; obtain ⟨q0, q1, q2⟩ := hS0; go_simp; try with_reducible rfl
                            simp only [Act.put, List.setIfInBounds_toArray, List.set_cons_zero, List.set_cons_succ, List.getElem_toArray, List.getElem_cons_succ, List.getElem_cons_zero]
                            refine wpAnyK_take (i := 10) (v := ?_) rfl (by kernel_rfl) (by kernel_rfl) (by kernel_rfl) (by kernel_rfl) (fun _ _ _ h => h) (Or.inl ⟨by rfl, ?_⟩) hS ?_
                            rotate_left
                            · intro w0 hS0; obtain ⟨q0, q1, q2⟩ := hS0; go_simp; try with_reducible rfl
                            simp only [Act.put, List.setIfInBounds_toArray, List.set_cons_zero, List.set_cons_succ, List.getElem_toArray, List.getElem_cons_succ, List.getElem_cons_zero]
                            refine wpAnyK_take (i := 11) (v := ?_) rfl (by kernel_rfl) (by kernel_rfl) (by kernel_rfl) (by kernel_rfl) (fun _ _ _ h => h) (Or.inl ⟨by rfl, ?_⟩) hS ?_
                            rotate_left
                            · intro w0 hS0; obtain ⟨q0, q1, q2⟩ := hS0; go_simp; try with_reducible rfl
                            simp only [Act.put, List.setIfInBounds_toArray, List.set_cons_zero, List.set_cons_succ, List.getElem_toArray, List.getElem_cons_succ, List.getElem_cons_zero]
                            refine wpAnyK_take (i := 12) (v := ?_) rfl (by kernel_rfl) (by kernel_rfl) (by kernel_rfl) (by kernel_rfl) (fun _ _ _ h => h) (Or.inl ⟨by rfl, ?_⟩) hS ?_
                            rotate_left
                            · intro w0 hS0; obtain ⟨q0, q1, q2⟩ := hS0; go_simp; try with_reducible rfl
                            simp only [Act.put, List.setIfInBounds_toArray, List.set_cons_zero, List.set_cons_succ, List.getElem_toArray, List.getElem_cons_succ, List.getElem_cons_zero]
                            refine wpAnyK_take (i := 13) (v := ?_) rfl (by kernel_rfl) (by kernel_rfl) (by kernel_rfl) (by kernel_rfl) (fun _ _ _ h => h) (Or.inl ⟨by rfl, ?_⟩) hS ?_
                            rotate_left
                            · intro w0 hS0; obtain ⟨q0, q1, q2⟩ := hS0; go_simp; try with_reducible rfl
                            simp only [Act.put, List.setIfInBounds_toArray, List.set_cons_zero, List.set_cons_succ, List.getElem_toArray, List.getElem_cons_succ, List.getElem_cons_zero]
                            refine wpAnyK_take (i := 14) (v := ?_) rfl (by kernel_rfl) (by kernel_rfl) (by kernel_rfl) (by kernel_rfl) (fun _ _ _ h => h) (Or.inl ⟨by rfl, ?_⟩) hS ?_
                            rotate_left
                            · intro w0 hS0; obtain ⟨q0, q1, q2⟩ := hS0; go_simp; try with_reducible rfl
                            simp only [Act.put, List.setIfInBounds_toArray, List.set_cons_zero, List.set_cons_succ, List.getElem_toArray, List.getElem_cons_succ, List.getElem_cons_zero]
                            refine wpAnyK_one (i := 15) rfl (by kernel_rfl) rfl ?_
                            go_simp
                            refine wpAnyK_done (by kernel_rfl) ?_ _
                            go_wp2_with fail
                            go_roundw
                            case rel => exact ⟨q + 1, some ⟨xb, 0, none⟩, xc, hqy, by go_num, by rw [hmx2], Lib.hid ⟨m9, gr, WS9.out, H9.out, NR9.out.drew.setCell _ _, HAR9.out⟩⟩
                            case measure => simp [intOf]; omega
                          · have hmx : max ws1.length (a + q) = a + q := by omega
                            have hmx2 : max ws1.length (a + (q + 1)) = a + q + 1 := by omega
                            have HST := Lib.hid (over_snoc (bs := ws1) (ys := ys) (p := a) hqy (by omega))
                            have hfr := hwr.fresh (Nat.le_refl _)
                            have lk := Mem.le_set mr (.cells #[.int .u8 (ys[q].toNat : Int)] 5) hfr
                            obtain ⟨v', w5, m5, hrun, n5, h5, ws5⟩ := (wsr.grow lk).app ys[q] 33 _ _ (hwr.alloc (.cells #[.int .u8 (ys[q].toNat : Int)] 5)) (Cells.whole (Mem.set_same _ _ _) rfl) (by omega)
                            have hl5 : (over ws1 a ys q ++ [ys[q]]).length = a + q + 1 := by rw [List.length_append, hol, hmx]; rfl
                            have wl5 := ws5.row.lenV
                            rw [hl5] at wl5
                            rw [HST.out] at ws5
                            obtain ⟨xa', xc', rfl, _⟩ := wl5
                            have hcond : ¬ ((a : Int) + (q : Int) < ((a + q : Nat) : Int)) := by omega
                            rw [hmx] at hrun ⊢
                            simp only [List.getElem_map] at yq
                            generalize ys[q] = yb at *
                            simp only [byteV] at yq
                            have W5 := Lib.hid ws5
                            have H5 := Lib.hid h5
                            have N5 := Lib.hid ((nr.alloc (.cells #[.int .u8 (yb.toNat : Int)] 5)).trans n5)
                            have HAR9 := Lib.hid har
                            clear ws5 h5 n5 wsr hwr nr har HY hfr lk hl5 HST cy
                            go_wp2_with (at_builtin; refine wpList_b2 rfl .append Builtin.append_ (fun _ _ _ _ => rfl) _ _ _ _ rfl rfl rfl hrun ?_)
                            go_roundw
                            case rel => exact ⟨q + 1, xa', xc', hqy, by go_num, by rw [hmx2], Lib.hid ⟨m5, gr, W5.out, H5.out, N5.out, HAR9.out⟩⟩
                            case measure => simp [intOf]; omega
                        · obtain rfl : q = ys.length := by omega
                          have hol := over_length (bs := ws1) (ys := ys) (p := a) hal (Nat.le_refl ys.length)
                          generalize over ws1 a ys ys.length = ws2 at *
                          rw [← hol] at wsr ⊢
                          have h2l : ws2.length ≤ 2300 := by omega
                          have SK := Lib.hid (seek_any sb 2 0 gr _ mr hwr wsr.own.rep (wsr.own.glob HG.out) (wsr.own.zero HG.out) (n_of har (by omega)))
                          have WSR := Lib.hid wsr
                          have NR := Lib.hid nr
                          have HAR := Lib.hid har
                          have HOL := Lib.hid hol
                          clear hol wsr hwr nr har HY
                          go_wp2_with fail
                          refine SK.out.mono ?_
                          rintro e w6 ⟨x, m6, rfl, h6, n6, hop⟩
                          rw [HAR.out] at hop
                          change OpR mr sb gr _ (A.withA _ 2 () (seekF (2 - 1 : Int).toNat 0)) _ m6 x at hop
                          rw [StB_seekB] at hop
                          obtain ⟨g6, ws6, ha6, rfl, _⟩ := WSR.out.step hop
                          have NR6 := Lib.hid (NR.out.trans n6)
                          have WS6 := Lib.hid ws6
                          have H6 := Lib.hid h6
                          have HA6 := Lib.hid ha6
                          clear e0 t0 e1 t1 hop n6 SK WSR NR HAR ws6 h6 ha6
                          go_wp2_with fail
                          refine (read_any sb 2 5000 g6 _ m6 H6.out WS6.out.own.rep (WS6.out.own.glob HG.out) (WS6.out.own.zero HG.out) (n_of HA6.out (by omega))).mono ?_
                          rintro e w7 ⟨v, x, m7, rfl, h7, n7, hop⟩
                          rw [HA6.out] at hop
                          change OpR m6 sb g6 _ (A.withA _ 2 [] (readF (2 - 1 : Int).toNat 5000)) _ m7 x at hop
                          rw [StB_read _ _ _ (by omega)] at hop
                          obtain ⟨g7, ws7, ha7, rfl, hb⟩ := WS6.out.step hop
                          have CV1 := conv_back (row_wind hb.1) _ h7
                          have CV2 := conv_back (row_wind ws7.row) _ h7
                          obtain ⟨va', vc', rfl, _⟩ := hb.1.lenV
                          have hbs := beq_strB ⟨ws2.toArray⟩
                          have NR7 := Lib.hid (NR6.out.trans n7)
                          have WS7 := Lib.hid ws7
                          have H7 := Lib.hid h7
                          have HA7 := Lib.hid ha7
                          have hko : k + 1 ≤ 20 := by omega
                          clear hop n7 WS6 NR6 H6 HA6 ws7 h7 ha7 hb
                          go_wp2_with fail
                          go_roundw
                          case rel => exact ⟨k + 1, ws2, hlz, hlp, by go_num, Lib.hid ⟨m7, g7, _, _, WS7.out, H7.out, NR7.out, by rw [HA7.out, show 2 + 5 * (k + 1) = 2 + 5 * k + 3 + 1 + 1 from by omega], h2l⟩⟩
                          case measure => simp [intOf]; omega
          · obtain ⟨mr, gr, pa, pb, wsr, hwr, nr, _⟩ := HX.out
            have WSR := Lib.hid wsr
            have HWR := Lib.hid hwr
            have NR := Lib.hid nr
            clear wsr hwr nr HX
            go_wp2_with fail
            refine (AW.out _ _ WSR.out.own.le HWR.out NR.out).mono ?_
            rintro e w9 ⟨v, m9, rfl, l9, h9, n9, rfl⟩
            have P9 := Lib.hid (Post.mk (R := fun v _ => v = .bool true) m9 l9 h9 n9 rfl)
            clear l9 h9 n9
            go_wp2_with fail
            go_ret
            exact P9.out
        · obtain ⟨mr, gr, pa, pb, wsr, hwr, nr, _⟩ := HX.out
          have WSR := Lib.hid wsr
          have HWR := Lib.hid hwr
          have NR := Lib.hid nr
          clear wsr hwr nr HX
          go_wp2_with fail
          refine (AW.out _ _ WSR.out.own.le HWR.out NR.out).mono ?_
          rintro e w9 ⟨v, m9, rfl, l9, h9, n9, rfl⟩
          have P9 := Lib.hid (Post.mk (R := fun v _ => v = .bool true) m9 l9 h9 n9 rfl)
          clear l9 h9 n9
          go_wp2_with fail
          go_ret
          exact P9.out
end Go.Proofs.YtcdmdkgiabfbeaaDoor
