/-
  FilesPlay, the walk.
-/
import Derived.Test.YtcdmdkgiabfbeaaGreatDoorK19
import Derived.Test.YtcdmdkgiabfbeaaGreatDoorK27
import Derived.Test.YtcdmdkgiabfbeaaGreatDoorK15
import Derived.Test.YtcdmdkgiabfbeaaGreatDoorK18
import Derived.Test.YtcdmdkgiabfbeaaGreatDoorK17
import Derived.Test.YtcdmdkgiabfbeaaGreatDoorRows
import Derived.ChangeSame
import Derived.ChangeVars
import Derived.JoinedOf
import Derived.RowKit
import Derived.RowKitTokens
import Derived.LaidLaws
import Derived.LaidHandle
import Derived.Stop.Joined
import Derived.Deep.Slices
import Derived.SizedLaws
namespace Go.Proofs.YtcdmdkgiabfbeaaGreatDoor
open Go.RowKit

/-- What the loop keeps: both stores, made since m. -/
def PInv (w : World) (m : Mem) (sb rb k : Nat) (wr : World) : Prop :=
  ∃ mr g r, m.le mr ∧ Has wr mr ∧ Env w wr ∧ Two mr sb rb g r ∧ (∀ b, PP sb rb g r b → m b = none) ∧ g.n ≤ k

theorem GlobOk.at0 {m : Mem} (h : GlobOk m) : ∃ o, m 0 = some o := by
  obtain ⟨c, e, fz, h1, _⟩ := h
  exact ⟨_, h1⟩

theorem WindZ.blk {m : Mem} {v : Value} {xs : List UInt8} (h : WindZ m v xs) (hp : 0 < xs.length) (b : Nat) (hb : v.ownBlk = some b) : ∃ o, m b = some o := by
  rcases h with ⟨_, _, _, h0⟩ | ⟨g, o, cap, rfl, _, c, e, fz, h1, _⟩
  · rw [h0] at hp; simp at hp
  · obtain rfl : g = b := Option.some.inj hb
    exact ⟨_, h1⟩

/-- does in the loop. -/
theorem PInv.does {w wr : World} {m mr : Mem} {sb rb k : Nat} {g : G} {r : RG} (l : m.le mr) (hw : Has wr mr) (nr : Env w wr) (t : Two mr sb rb g r) (new : ∀ b, PP sb rb g r b → m b = none) (hn : g.n ≤ k) (hk : k ≤ 9998) (hG : GlobOk m) (s : Stp) (hz : WindZ m s.bv s.b) (hb : s.b.length ≤ 1000000) :
    Calls Tryz.prog 20 #[.pointer (some ⟨sb, 0, none⟩), .pointer (some ⟨rb, 0, none⟩), .agg (stpCells s).toArray] wr fun e w2 => e = .returned (.bool true) ∧ ∃ m2 g2 r2, m.le m2 ∧ Has w2 m2 ∧ Env w w2 ∧ Two m2 sb rb g2 r2 ∧ (∀ b, PP sb rb g2 r2 b → m b = none) ∧ g2.n ≤ k + 1 ∧ g2.abs = stepA g.abs s := by
  refine (does_any sb rb s g r wr mr hw t (hG.le l) (fun h0 => ?_) (by omega) (hz.le l) (fun hp b hb hq => ?_) hb).mono ?_
  · obtain ⟨o, ho⟩ := hG.at0
    rw [new 0 h0] at ho; cases ho
  · obtain ⟨o, ho⟩ := hz.blk hp b hb
    rw [new b hq] at ho; cases ho
  · rintro e w2 ⟨m2, g2, r2, rfl, h2, n2, t2, ha, fr⟩
    obtain ⟨l2, new2⟩ := fr.base l new
    refine ⟨rfl, m2, g2, r2, l2, h2, nr.trans n2, t2, new2, ?_, ha⟩
    have h3 : g2.abs.n ≤ g.abs.n + 1 := by rw [ha]; exact stepA_n _ _
    have h4 : g2.n ≤ g.n + 1 := h3
    omega

set_option maxHeartbeats 4000000 in
set_option maxRecDepth 100000 in
theorem play_any (fv xv lv : Value) (fl : List File2) (xl : List Fail3) (sl : List Stp) (w : World) (m : Mem) (hm : Has w m) (hG : GlobOk m) (hf : Files2 m fv fl) (hfl : fl.length ≤ 140737488355328) (hfs : ∀ f ∈ fl, f.1.size ≤ 140737488355328 ∧ f.2.size ≤ 140737488355328)
    (hx : WindK m xv xl.length (xl.flatMap failCells)) (hxl : xl.length ≤ 140737488355328) (hs : StepsK m lv sl) :
    Calls Tryz.prog 5 #[fv, xv, lv] w (Post w m fun v _ => v = .bool true) := by
  obtain ⟨la, lc, rfl⟩ := hs.win.shape
  obtain ⟨xa, xc, rfl⟩ := hx.shape
  have hsl := hs.len
  have H := Lib.hid hm
  have HG := Lib.hid hG
  have HS := Lib.hid hs
  have HF := Lib.hid hf
  have HX := Lib.hid hx
  have HFS := Lib.hid hfs
  clear hm hG hs hf hx hfs
  have AW : Hid (∀ w1 m1, m.le m1 → Has w1 m1 → Env w w1 → Calls Tryz.prog 7 #[] w1 (Post w m fun v _ => v = .bool true)) := Lib.hid (fun w1 m1 l1 h1 n1 => by
    refine (awake_any w1 m1 h1 (HG.out.le l1)).mono ?_
    rintro e w2 ⟨v, m2, rfl, l2, h2, n2, rfl⟩
    exact Post.mk m2 (Mem.le_trans l1 l2) h2 (n1.trans n2) rfl)
  go_enter Tryz.func5, Tryz.ntmps5
  go_wp2_with fail
  refine (much_any fv fl xa xl.length xc _ sl w m H.out HF.out hfl hxl HFS.out HS.out).mono ?_
  rintro e w2 ⟨v, m2, rfl, l2, h2, n2, t, rfl, hv⟩
  have L2 := Lib.hid l2
  have H2 := Lib.hid h2
  have N2 := Lib.hid n2
  clear l2 h2 n2
  cases t with
  | true =>
    clear hv
    go_wp2_with fail
    refine (AW.out _ _ L2.out H2.out N2.out).mono ?_
    rintro e w3 ⟨v, m3, rfl, l3, h3, n3, rfl⟩
    have P3 := Lib.hid (Post.mk (R := fun v _ => v = .bool true) m3 l3 h3 n3 rfl)
    clear l3 h3 n3
    go_wp2_with fail
    go_ret
    exact P3.out
  | false =>
    obtain ⟨b1, b2, b3, b4, b5⟩ := hv rfl
    have B4 : Hid (∀ f ∈ fl, f.2.size ≤ 1000000000) := Lib.hid (fun f hf => by
      have h := b4 f hf
      unfold fileN at h
      omega)
    have B5 := Lib.hid b5
    clear b4 b5 hv
    go_wp2_with fail
    refine (new_any fv (.slice xa xl.length xc) fl xl w2 m2 H2.out (HF.out.le L2.out) (HX.out.le L2.out) (by omega) (by omega) B4.out).mono ?_
    rintro e w3 ⟨v, m3, rfl, l3, h3, n3, hv⟩
    have H3 := Lib.hid h3
    have N3 := Lib.hid (N2.out.trans n3)
    have L3 := Lib.hid l3
    have NV := Lib.hid hv
    clear h3 n3 l3
    have NR := Lib.hid (newref_any fv (.slice xa xl.length xc) fl xl w3 m3 H3.out (HF.out.le (Mem.le_trans L2.out L3.out)) (HX.out.le (Mem.le_trans L2.out L3.out)) (by omega) (by omega) B4.out)
    by_cases hE : newE fl xl.length = 0
    · obtain ⟨sb, g0, hveq, _⟩ := hv.1 hE
      subst hveq
      have HE := Lib.hid hE
      clear hv hE
      go_wp2_with fail
      refine NR.out.mono ?_
      rintro e w4 ⟨u, m4, rfl, l4, h4, n4, hu⟩
      obtain ⟨sb', g, rb, r, hs1, hu1, t4, new1, new2, ha, _⟩ := two_new NV.out hu L3.out (Mem.le_refl _) l4 HE.out
      obtain rfl : sb = sb' := by simpa using hs1
      subst hu1
      have hgn : g.n = 0 := by
        have h : g.abs.n = 0 := by rw [ha]; rfl
        exact h
      have P0 : Hid (PInv w m sb rb 0 w4) := Lib.hid ⟨m4, g, r, Mem.le_trans L2.out (Mem.le_trans L3.out l4), h4, N3.out.trans n4, t4, fun b hb => by
        rcases hb with hb | hb
        · exact Mem.none_le L2.out (new1 b hb)
        · exact Mem.none_le (Mem.le_trans L2.out L3.out) (new2 b hb), Nat.le_of_eq hgn⟩
      clear h4 n4 l4 hu t4 new1 new2 ha hgn hs1 NR NV L3 N3 H3 HX HF B4
      go_wp2_with fail
      go_loopw [11] (fun i wr => ∃ k : Nat, k ≤ sl.length ∧ i = .int .i64 k ∧ Hid (PInv w m sb rb k wr)) (fun i _ => sl.length - (intOf i).toNat)
      case atStart => exact ⟨0, Nat.zero_le _, rfl, P0⟩
      case round =>
        obtain ⟨k, hk, rfl, HP⟩ := hrel
        obtain ⟨mr, g, r, lr, hwr, nr, t, new, hn⟩ := HP.out
        clear P0
        by_cases hlt : k < sl.length
        · obtain ⟨gb, go, cap, hla, hc⟩ := WindK.cells HS.out.win (by omega)
          simp only [Value.slice.injEq] at hla
          obtain ⟨rfl, _, rfl⟩ := hla
          obtain ⟨e0, e1, e2, e3, e4, e5⟩ := StepsK.at (hc.le lr) hwr hlt
          have glt : gb < wr.heap.size := by
            obtain ⟨c, e, fz, h1, _⟩ := hc.le lr
            exact hwr.lt h1
          have zw := HS.out.wind _ (List.getElem_mem hlt)
          have zb := B5.out _ (List.getElem_mem hlt)
          obtain ⟨s, hsk⟩ : ∃ f, f = sl[k] := ⟨_, rfl⟩
          rw [← hsk] at e0 e1 e2 e3 e4 e5 zw zb
          have DO := Lib.hid (PInv.does lr hwr.drew nr.drew t new hn (by omega) HG.out s zw (by unfold stpN at zb; omega))
          obtain ⟨kd, nm, to', sid, sn, bv, bs⟩ := s
          simp only at e0 e1 e2 e3 e4 e5
          have SC : Hid (∀ mx wx, m.le mx → Has wx mx → wx.cell? ⟨gb, go + k * 6, none⟩ = some (.int .i64 kd) ∧ wx.cell? ⟨gb, go + k * 6 + 1, none⟩ = some (.string nm) ∧ wx.cell? ⟨gb, go + k * 6 + 2, none⟩ = some (.string to') ∧ wx.cell? ⟨gb, go + k * 6 + 3, none⟩ = some (.int .i64 sid) ∧ wx.cell? ⟨gb, go + k * 6 + 4, none⟩ = some (.int .i64 sn) ∧ wx.cell? ⟨gb, go + k * 6 + 5, none⟩ = some bv) := Lib.hid (fun mx wx lx hx => by
            have hh := StepsK.at (hc.le lx) hx hlt
            rw [← hsk] at hh
            exact hh)
          clear hsk zw zb hc lr hwr nr t new hn HP
          go_wp2_with fail
          refine wp_region_K 6 (fun w' => w'.cell? ⟨gb, go + k * 6, none⟩ = some (.int .i64 kd) ∧ w'.cell? ⟨gb, go + k * 6 + 1, none⟩ = some (.string nm) ∧ w'.cell? ⟨gb, go + k * 6 + 2, none⟩ = some (.string to') ∧ w'.cell? ⟨gb, go + k * 6 + 3, none⟩ = some (.int .i64 sid) ∧ w'.cell? ⟨gb, go + k * 6 + 4, none⟩ = some (.int .i64 sn) ∧ w'.cell? ⟨gb, go + k * 6 + 5, none⟩ = some bv) (by kernel_rfl) ?_
          have hS : (fun w' : World => w'.cell? ⟨gb, go + k * 6, none⟩ = some (.int .i64 kd) ∧ w'.cell? ⟨gb, go + k * 6 + 1, none⟩ = some (.string nm) ∧ w'.cell? ⟨gb, go + k * 6 + 2, none⟩ = some (.string to') ∧ w'.cell? ⟨gb, go + k * 6 + 3, none⟩ = some (.int .i64 sid) ∧ w'.cell? ⟨gb, go + k * 6 + 4, none⟩ = some (.int .i64 sn) ∧ w'.cell? ⟨gb, go + k * 6 + 5, none⟩ = some bv) wr.drew := ⟨e0, e1, e2, e3, e4, e5⟩
          refine wpAnyK_take (i := 0) (v := ?_) rfl (by kernel_rfl) (by kernel_rfl) (by kernel_rfl) (by kernel_rfl) (fun _ _ _ h => h) (Or.inl ⟨by rfl, ?_⟩) hS ?_
          rotate_left
          · intro w0 hS0; obtain ⟨q0, q1, q2, q3, q4, q5⟩ := hS0; go_simp; try with_reducible rfl
          simp only [Act.put, List.setIfInBounds_toArray, List.set_cons_zero, List.set_cons_succ, List.getElem_toArray, List.getElem_cons_succ, List.getElem_cons_zero]
          refine wpAnyK_take (i := 1) (v := ?_) rfl (by kernel_rfl) (by kernel_rfl) (by kernel_rfl) (by kernel_rfl) (fun _ _ _ h => h) (Or.inl ⟨by rfl, ?_⟩) hS ?_
          rotate_left
          · intro w0 hS0; obtain ⟨q0, q1, q2, q3, q4, q5⟩ := hS0; go_simp; try with_reducible rfl
          simp only [Act.put, List.setIfInBounds_toArray, List.set_cons_zero, List.set_cons_succ, List.getElem_toArray, List.getElem_cons_succ, List.getElem_cons_zero]
          refine wpAnyK_take (i := 2) (v := ?_) rfl (by kernel_rfl) (by kernel_rfl) (by kernel_rfl) (by kernel_rfl) (fun _ _ _ h => h) (Or.inl ⟨by rfl, ?_⟩) hS ?_
          rotate_left
          · intro w0 hS0; obtain ⟨q0, q1, q2, q3, q4, q5⟩ := hS0; go_simp; try with_reducible rfl
          simp only [Act.put, List.setIfInBounds_toArray, List.set_cons_zero, List.set_cons_succ, List.getElem_toArray, List.getElem_cons_succ, List.getElem_cons_zero]
          refine wpAnyK_take (i := 3) (v := ?_) rfl (by kernel_rfl) (by kernel_rfl) (by kernel_rfl) (by kernel_rfl) (fun _ _ _ h => h) (Or.inl ⟨by rfl, ?_⟩) hS ?_
          rotate_left
          · intro w0 hS0; obtain ⟨q0, q1, q2, q3, q4, q5⟩ := hS0; go_simp; try with_reducible rfl
          simp only [Act.put, List.setIfInBounds_toArray, List.set_cons_zero, List.set_cons_succ, List.getElem_toArray, List.getElem_cons_succ, List.getElem_cons_zero]
          refine wpAnyK_take (i := 4) (v := ?_) rfl (by kernel_rfl) (by kernel_rfl) (by kernel_rfl) (by kernel_rfl) (fun _ _ _ h => h) (Or.inl ⟨by rfl, ?_⟩) hS ?_
          rotate_left
          · intro w0 hS0; obtain ⟨q0, q1, q2, q3, q4, q5⟩ := hS0; go_simp; try with_reducible rfl
          simp only [Act.put, List.setIfInBounds_toArray, List.set_cons_zero, List.set_cons_succ, List.getElem_toArray, List.getElem_cons_succ, List.getElem_cons_zero]
          refine wpAnyK_take (i := 5) (v := ?_) rfl (by kernel_rfl) (by kernel_rfl) (by kernel_rfl) (by kernel_rfl) (fun _ _ _ h => h) (Or.inl ⟨by rfl, ?_⟩) hS ?_
          rotate_left
          · intro w0 hS0; obtain ⟨q0, q1, q2, q3, q4, q5⟩ := hS0; go_simp; try with_reducible rfl
          simp only [Act.put, List.setIfInBounds_toArray, List.set_cons_zero, List.set_cons_succ, List.getElem_toArray, List.getElem_cons_succ, List.getElem_cons_zero]
          clear hS e0 e1 e2 e3 e4 e5
          refine wpAnyK_one (i := 6) rfl (by kernel_rfl) rfl ?_
          go_simp
          refine DO.out.mono ?_
          rintro e w5 ⟨rfl, m5, g5, r5, l5, h5, n5, t5, new5, hn5, _⟩
          have cn5 : w5.cell? ⟨rb, 3, none⟩ = some (.int .i64 g5.n) := by rw [h5.cell t5.rf.rep.store, ← t5.n]; rfl
          have hS := SC.out m5 w5 l5 h5
          have OPS := Lib.hid (ops_any sb g5 w5 m5 h5 t5.st)
          have P5 := Lib.hid (show PInv w m sb rb (k + 1) w5 from ⟨m5, g5, r5, l5, h5, n5, t5, new5, hn5⟩)
          clear l5 h5 n5 t5 new5 hn5 SC DO
          refine wpAnyK_swap (S' := fun w' => (w'.cell? ⟨gb, go + k * 6, none⟩ = some (.int .i64 kd) ∧ w'.cell? ⟨gb, go + k * 6 + 1, none⟩ = some (.string nm) ∧ w'.cell? ⟨gb, go + k * 6 + 2, none⟩ = some (.string to') ∧ w'.cell? ⟨gb, go + k * 6 + 3, none⟩ = some (.int .i64 sid) ∧ w'.cell? ⟨gb, go + k * 6 + 4, none⟩ = some (.int .i64 sn) ∧ w'.cell? ⟨gb, go + k * 6 + 5, none⟩ = some bv) ∧ w'.cell? ⟨rb, 3, none⟩ = some (.int .i64 g5.n)) (k := 6) (k' := 17) (by decide) (fun _ h => h.1) _ _ _ _ ?_
          have hS : (fun w' : World => (w'.cell? ⟨gb, go + k * 6, none⟩ = some (.int .i64 kd) ∧ w'.cell? ⟨gb, go + k * 6 + 1, none⟩ = some (.string nm) ∧ w'.cell? ⟨gb, go + k * 6 + 2, none⟩ = some (.string to') ∧ w'.cell? ⟨gb, go + k * 6 + 3, none⟩ = some (.int .i64 sid) ∧ w'.cell? ⟨gb, go + k * 6 + 4, none⟩ = some (.int .i64 sn) ∧ w'.cell? ⟨gb, go + k * 6 + 5, none⟩ = some bv) ∧ w'.cell? ⟨rb, 3, none⟩ = some (.int .i64 g5.n)) w5 := ⟨hS, cn5⟩
          refine wpAnyK_take (i := 7) (v := ?_) rfl (by kernel_rfl) (by kernel_rfl) (by kernel_rfl) (by kernel_rfl) (fun _ _ _ h => h) (Or.inl ⟨by rfl, ?_⟩) hS ?_
          rotate_left
          · intro w0 hS0; obtain ⟨q0, q1⟩ := hS0; go_simp; try with_reducible rfl
          simp only [Act.put, List.setIfInBounds_toArray, List.set_cons_zero, List.set_cons_succ, List.getElem_toArray, List.getElem_cons_succ, List.getElem_cons_zero]
          refine wpAnyK_take (i := 8) (v := ?_) rfl (by kernel_rfl) (by kernel_rfl) (by kernel_rfl) (by kernel_rfl) (fun _ _ _ h => h) (Or.inl ⟨by rfl, ?_⟩) hS ?_
          rotate_left
          · intro w0 hS0; obtain ⟨q0, q1⟩ := hS0; go_simp; try with_reducible rfl
          simp only [Act.put, List.setIfInBounds_toArray, List.set_cons_zero, List.set_cons_succ, List.getElem_toArray, List.getElem_cons_succ, List.getElem_cons_zero]
          refine wpAnyK_take (i := 9) (v := ?_) rfl (by kernel_rfl) (by kernel_rfl) (by kernel_rfl) (by kernel_rfl) (fun _ _ _ h => h) (Or.inl ⟨by rfl, ?_⟩) hS ?_
          rotate_left
          · intro w0 hS0; obtain ⟨q0, q1⟩ := hS0; go_simp; try with_reducible rfl
          simp only [Act.put, List.setIfInBounds_toArray, List.set_cons_zero, List.set_cons_succ, List.getElem_toArray, List.getElem_cons_succ, List.getElem_cons_zero]
          refine wpAnyK_take (i := 11) (v := ?_) rfl (by kernel_rfl) (by kernel_rfl) (by kernel_rfl) (by kernel_rfl) (fun _ _ _ h => h) (Or.inl ⟨by rfl, ?_⟩) hS ?_
          rotate_left
          · intro w0 hS0; obtain ⟨q0, q1⟩ := hS0; go_simp; try with_reducible rfl
          simp only [Act.put, List.setIfInBounds_toArray, List.set_cons_zero, List.set_cons_succ, List.getElem_toArray, List.getElem_cons_succ, List.getElem_cons_zero]
          refine wpAnyK_take (i := 12) (v := ?_) rfl (by kernel_rfl) (by kernel_rfl) (by kernel_rfl) (by kernel_rfl) (fun _ _ _ h => h) (Or.inl ⟨by rfl, ?_⟩) hS ?_
          rotate_left
          · intro w0 hS0; obtain ⟨q0, q1⟩ := hS0; go_simp; try with_reducible rfl
          simp only [Act.put, List.setIfInBounds_toArray, List.set_cons_zero, List.set_cons_succ, List.getElem_toArray, List.getElem_cons_succ, List.getElem_cons_zero]
          refine wpAnyK_take (i := 13) (v := ?_) rfl (by kernel_rfl) (by kernel_rfl) (by kernel_rfl) (by kernel_rfl) (fun _ _ _ h => h) (Or.inl ⟨by rfl, ?_⟩) hS ?_
          rotate_left
          · intro w0 hS0; obtain ⟨q0, q1⟩ := hS0; go_simp; try with_reducible rfl
          simp only [Act.put, List.setIfInBounds_toArray, List.set_cons_zero, List.set_cons_succ, List.getElem_toArray, List.getElem_cons_succ, List.getElem_cons_zero]
          refine wpAnyK_take (i := 14) (v := ?_) rfl (by kernel_rfl) (by kernel_rfl) (by kernel_rfl) (by kernel_rfl) (fun _ _ _ h => h) (Or.inl ⟨by rfl, ?_⟩) hS ?_
          rotate_left
          · intro w0 hS0; obtain ⟨q0, q1⟩ := hS0; go_simp; try with_reducible rfl
          simp only [Act.put, List.setIfInBounds_toArray, List.set_cons_zero, List.set_cons_succ, List.getElem_toArray, List.getElem_cons_succ, List.getElem_cons_zero]
          refine wpAnyK_oneW (i := 10) rfl (by kernel_rfl) (by rfl) ?_
          go_simp
          refine OPS.out.mono ?_
          rintro e w6 ⟨rfl, rfl⟩
          refine ⟨hS, ?_⟩
          refine wpAnyK_take (i := 15) (v := ?_) rfl (by kernel_rfl) (by kernel_rfl) (by kernel_rfl) (by kernel_rfl) (fun _ _ _ h => h) (Or.inl ⟨by rfl, ?_⟩) hS ?_
          rotate_left
          · intro w0 hS0; obtain ⟨q0, q1⟩ := hS0; go_simp; try with_reducible rfl
          simp only [Act.put, List.setIfInBounds_toArray, List.set_cons_zero, List.set_cons_succ, List.getElem_toArray, List.getElem_cons_succ, List.getElem_cons_zero]
          refine wpAnyK_take (i := 16) (v := ?_) rfl (by kernel_rfl) (by kernel_rfl) (by kernel_rfl) (by kernel_rfl) (fun _ _ _ h => h) (Or.inl ⟨by rfl, ?_⟩) hS ?_
          rotate_left
          · intro w0 hS0; obtain ⟨q0, q1⟩ := hS0; go_simp; try with_reducible rfl
          simp only [Act.put, List.setIfInBounds_toArray, List.set_cons_zero, List.set_cons_succ, List.getElem_toArray, List.getElem_cons_succ, List.getElem_cons_zero]
          refine wpAnyK_done (by kernel_rfl) ?_ _
          clear hS cn5 OPS
          go_wp2_with fail
          go_roundw
          case rel => exact ⟨k + 1, hlt, by go_num, P5⟩
          case measure => simp [intOf]; omega
        · have FA := Lib.hid (files_any sb g wr mr hwr t.st)
          have RFI := Lib.hid (fun wx mx (lx : mr.le mx) (hx : Has wx mx) => reffiles_any rb r wx mx hx (t.rf.rep.le lx) (by rw [t.n]; omega))
          have NMS := Lib.hid t.st.names
          have PRM := Lib.hid (perm_of_look t.st t.rf.rep (congrArg A.look t.eq))
          have HLG : Hid (g.L.length ≤ 100) := Lib.hid t.st.llen
          have LR := Lib.hid lr
          have NR' := Lib.hid nr
          clear lr hwr nr t new HP
          go_wp2_with fail
          refine FA.out.mono ?_
          rintro e w11 ⟨x, m11, rfl, l11, h11, n11, hx⟩
          have RF := Lib.hid (RFI.out w11 m11 l11 h11)
          have HXX := Lib.hid hx
          have LM11 := Lib.hid (Mem.le_trans LR.out l11)
          have N11 := Lib.hid (NR'.out.trans n11)
          clear l11 h11 n11 hx FA RFI
          go_wp2_with fail
          refine RF.out.mono ?_
          rintro e w12 ⟨y, m12, rfl, l12, h12, n12, ol, hy, hperm, hsort⟩
          have hol := files_eq (L := g.L) (F := r.F) NMS.out PRM.out hperm hsort
          subst hol
          have hfl2 : (filesOf g.L).length ≤ 1000000 := by unfold filesOf; rw [List.length_map, namesB_length]; have := HLG.out; omega
          have AL := Lib.hid (all_same x y (filesOf g.L) w12 m12 h12 (HXX.out.1.le l12) hy.1 hfl2)
          have LM12 := Lib.hid (Mem.le_trans LM11.out l12)
          have N12 := Lib.hid (N11.out.trans n12)
          clear l12 h12 n12 hy hperm hsort RF hfl2
          go_wp2_with fail
          refine AL.out.mono ?_
          rintro e w13 ⟨z, m13, rfl, l13, h13, n13, rfl⟩
          have LM13 := Lib.hid (Mem.le_trans LM12.out l13)
          have H13 := Lib.hid h13
          have N13 := Lib.hid (N12.out.trans n13)
          clear l13 h13 n13 AL
          go_wp2_with fail
          refine (AW.out _ _ LM13.out H13.out N13.out).mono ?_
          rintro e w9 ⟨v, m9, rfl, l9, h9, n9, rfl⟩
          have P9 := Lib.hid (Post.mk (R := fun v _ => v = .bool true) m9 l9 h9 n9 rfl)
          clear l9 h9 n9
          go_wp2_with fail
          go_ret
          exact P9.out
    · have hv' := hv.2 hE
      subst hv'
      have HE := Lib.hid hE
      clear hv NV
      go_wp2_with fail
      refine NR.out.mono ?_
      rintro e w4 ⟨u, m4, rfl, l4, h4, n4, hu⟩
      have hu' := hu.2 HE.out
      subst hu'
      have H4 := Lib.hid h4
      have N4 := Lib.hid (N3.out.trans n4)
      have L4 := Lib.hid (Mem.le_trans L2.out (Mem.le_trans L3.out l4))
      obtain ⟨x, hx⟩ : ∃ x, newE fl xl.length = x := ⟨_, rfl⟩
      rw [hx] at HE
      rw [hx]
      have hx0 : ¬ x = 0 := HE.out
      have hxb : (x != 0) = true := by simpa using hx0
      clear h4 n4 l4 hu NR hE hx
      go_wp2_with fail
      refine (AW.out _ _ L4.out H4.out N4.out).mono ?_
      rintro e w5 ⟨v, m5, rfl, l5, h5, n5, rfl⟩
      have P5 := Lib.hid (Post.mk (R := fun v _ => v = .bool true) m5 l5 h5 n5 rfl)
      clear l5 h5 n5
      go_wp2_with fail
      go_ret
      exact P5.out
end Go.Proofs.YtcdmdkgiabfbeaaGreatDoor

/-
  Out of a row's condition: the cell of errors.errorType; a world that meets it; the memory that is known when a law begins. After the guide's worked example ToyasProofs.lean.
-/
namespace Go.Proofs.YtcdmdkgiabfbeaaGreatDoor
open Go.ChangeShapes Go.WideShapes Go.RowKit

theorem la_own : ownKnob Tryz.prog.godebug = none := by kernel_rfl
theorem la_et : Tryz.prog.globalNamed "errors.errorType" = some 0 := by kernel_rfl
theorem la_rt : (Tryz.prog.cutTypes.find? (·.1 == "internal/reflectlite.rtype")).map (·.2) = some 135 := by kernel_rfl
theorem la_oneRow : ((List.range 196).filter fun t => Tryz.prog.rowNamed t [101, 114, 114, 111, 114]) = [64] := by kernel_rfl
theorem la_size : Tryz.prog.types.size = 196 := by kernel_rfl

def laidL : List (String × DataW Unit) := [("errors.errorType", Rows.laid_errors_errorType)]

theorem handle_of_laid {W : World} (h : laidMetH Tryz.prog laidL W) : W.cell? ⟨0, 0, none⟩ = some (.iface 135 (.agg #[.pointer (some ⟨2, 64, none⟩)])) := by
  have h' : laidMet Tryz.prog [] W ∧ handlesMet Tryz.prog laidL W := h
  obtain ⟨name, u, ty, e1, e2, e3, e4, e5⟩ := h'.2 _ (List.mem_singleton.2 rfl)
  have en : name = [101, 114, 114, 111, 114] := (Option.some.inj e1).symm
  subst en
  obtain rfl := Option.some.inj (la_rt.symm.trans e2)
  have hm : ty ∈ (List.range 196).filter fun t => Tryz.prog.rowNamed t [101, 114, 114, 111, 114] := List.mem_filter.2 ⟨List.mem_range.2 (by rw [← la_size]; exact e3), e4⟩
  rw [la_oneRow] at hm
  obtain rfl := List.mem_singleton.1 hm
  have hh : typeHandle Tryz.prog 64 = .pointer (some ⟨2, 64, none⟩) := by kernel_rfl
  rw [hh] at e5
  simpa using World.var?_cell la_et e5 0

/-- All that a world holds. -/
def memOf (W : World) : Mem := fun b => W.heap[b]?
theorem has_memOf (W : World) : Has W (memOf W) := fun _ _ h => h

theorem glob_of_laid {W : World} (h : laidMetH Tryz.prog laidL W) : GlobOk (memOf W) := by
  have hc := handle_of_laid h
  unfold World.cell? at hc
  cases ho : W.heap[0]? with
  | none => rw [ho] at hc; cases hc
  | some o =>
    rw [ho] at hc
    cases o with
    | cells c e fz => exact ⟨c, e, fz, ho, by simpa using hc⟩
    | _ => simp at hc

theorem below_of {W w' : World} {m' : Mem} (l : (memOf W).le m') (h : Has w' m') (n : Env W w') : Below W.heap.size W w' := by
  have key : ∀ k, k < W.heap.size → w'.heap[k]? = W.heap[k]? := fun k hk => by
    rw [Array.getElem?_eq_getElem hk]
    exact h _ _ (l k _ (Array.getElem?_eq_getElem hk))
  refine ⟨n.os, n.tape, n.output, ?_, key⟩
  rcases Nat.eq_zero_or_pos W.heap.size with h0 | h0
  · omega
  · have h2 := key (W.heap.size - 1) (by omega)
    have h3 : W.heap[W.heap.size - 1]? = some W.heap[W.heap.size - 1] := Array.getElem?_eq_getElem (by omega)
    rw [h3] at h2
    have := (Array.getElem?_eq_some_iff.1 h2).1
    omega

/-- A world that meets the condition: the settled one, the variable's cell laid. -/
noncomputable def laidWorld (os : Os) : World :=
  let w0 := World.holding Tryz.prog os ⟨#[], #[], []⟩
  { w0 with heap := w0.heap.modify 0 fun
      | .cells _ t frozen => .cells #[.iface 135 (.agg #[.pointer (some ⟨2, 64, none⟩)])] t frozen
      | o => o }
theorem laidWorld_met (os : Os) (args : Array Value) : laidMetH Tryz.prog laidL ((laidWorld os).forCall (fun _ _ => 0) ⟨#[], args, []⟩).memory :=
  laidMetH_of_parts (laidMet_nil _ _) (by kernel_rfl)
end Go.Proofs.YtcdmdkgiabfbeaaGreatDoor

/-
  Arguments opened: what of them is known in memory, and how large they are.
-/
namespace Go.Proofs.YtcdmdkgiabfbeaaGreatDoor
open Go.ChangeShapes Go.WideShapes Go.RowKit

theorem cells_memOf {W : World} {a : Addr} {xs : List Value} (h : ∀ j u, xs[j]? = some u → W.cell? (a.add j) = some u) (hp : 0 < xs.length) : ∃ g o, a = ⟨g, o, none⟩ ∧ Cells (memOf W) g o xs := by
  obtain ⟨ab, ao, asp⟩ := a
  have h00 := h 0 xs[0] (by simp [hp])
  cases asp with
  | some sp =>
    exfalso
    simp only [Addr.add, if_true, World.cell?] at h00
    split at h00 <;> simp at h00
  | none =>
    have hadd : ∀ j, (⟨ab, ao, none⟩ : Addr).add j = ⟨ab, ao + j, none⟩ := fun j => by unfold Addr.add; split <;> simp_all
    refine ⟨ab, ao, rfl, ?_⟩
    cases ho : W.heap[ab]? with
    | none => rw [hadd] at h00; simp [World.cell?, ho] at h00
    | some o =>
      cases o with
      | cells c e fz =>
        refine ⟨c, e, fz, ho, fun j u hj => ?_⟩
        have hc := h j u hj
        rw [hadd] at hc
        simp only [World.cell?, ho] at hc
        exact hc
      | _ => rw [hadd] at h00; simp [World.cell?, ho] at h00

section
variable {H : Type} {enc : TypeId × Value → H} {W : World} {held : Bool}

theorem oa_u8 : Tryz.prog.cellsOf 5 = 1 := by kernel_rfl
theorem oa_bytes8 : Tryz.prog.bytesOf 5 = 1 := by kernel_rfl

theorem byte_of {n : Int} (h : (Lit.int .u8 n).wf = true) : byteV (UInt8.ofNat n.toNat) = .int .u8 n := by
  have h2 : IntKind.u8.min ≤ n ∧ n ≤ IntKind.u8.max := by simpa [Lit.wf] using h
  have h3 : IntKind.u8.min = 0 := by decide
  have h4 : IntKind.u8.max = 255 := by decide
  rw [h3, h4] at h2
  unfold byteV
  congr 1
  simp
  omega

/-- A slice of bytes. -/
theorem open_bytes {fuel : Nat} {cs : List Value} {x : DataW H × List MemPlace} (h : DataW.trod enc Tryz.prog W 0 (fun _ => true) held fuel 26 cs = some x) :
    ∃ v bs, cs = [v] ∧ WindZ (memOf W) v bs ∧ ((∀ n ∈ x.1.weights Tryz.prog 26, n ≤ reachBytes) → bs.length ≤ reachBytes) := by
  rcases open_ints Tryz.underlying26 Tryz.underlying5 oa_u8 h with ⟨hcs, hx⟩ | ⟨a, len, cap, zs, hcs, _, hl, hm, hz, hx, hcell, hws⟩
  · exact ⟨_, [], hcs, .inl ⟨none, 0, rfl, rfl⟩, fun _ => Nat.zero_le _⟩
  · simp only [if_true] at hz
    refine ⟨_, (zs.take len).map fun n => UInt8.ofNat n.toNat, hcs, ?_, fun hw => ?_⟩
    · have hlen : ((zs.take len).map fun n => UInt8.ofNat n.toNat).length = len := by simp; omega
      rcases Nat.eq_zero_or_pos len with h0 | h0
      · subst h0; exact .inl ⟨_, _, rfl, by simp⟩
      · have hb : (((zs.take len).map fun n => UInt8.ofNat n.toNat).map byteV) = (zs.take len).map (Value.int .u8) := by
          rw [List.map_map]
          exact List.map_congr_left fun n hn => byte_of (hws n (List.mem_of_mem_take hn))
        obtain ⟨g, o, rfl, hc⟩ := cells_memOf (W := W) (a := a) (xs := (zs.take len).map (Value.int .u8)) (fun j u hj => by
          rw [List.getElem?_map, List.getElem?_take] at hj
          split at hj
          · rename_i hjl
            rw [hcell j (by omega)]
            rw [List.getElem?_eq_getElem (by omega)] at hj
            rw [List.getD_eq_getElem?_getD, List.getElem?_eq_getElem (by omega)]
            simpa using hj
          · cases hj) (by simp; omega)
        exact .inr ⟨g, o, cap, by rw [hlen], by omega, by rw [hb]; exact hc⟩
    · have : len ≤ reachBytes := by
        refine Nat.le_trans ?_ (hw ((lits .u8 (zs.take len) : List (DataW H)).length * 1 + (lits .u8 (zs.drop len) : List (DataW H)).length * 1) ?_)
        · simp [lits]; omega
        · rw [hx]
          simp only [DataW.weights, Tryz.underlying26, oa_bytes8, Nat.mul_one, List.mem_cons, true_or]
      simp; omega

theorem weights_all {P : Program} {e : TypeId} : ∀ {ds : List (DataW H)} {d : DataW H}, d ∈ ds → ∀ n ∈ d.weights P e, n ∈ DataW.weightsAll P e ds
  | [], _, h, _, _ => by cases h
  | d0 :: ds, d, h, n, hn => by
    simp only [DataW.weightsAll, List.mem_append]
    rcases List.mem_cons.1 h with rfl | h
    · exact .inl hn
    · exact .inr (weights_all h n hn)
end
end Go.Proofs.YtcdmdkgiabfbeaaGreatDoor

/-
  A script as an argument, opened.
-/
namespace Go.Proofs.YtcdmdkgiabfbeaaGreatDoor
open Go.ChangeShapes Go.WideShapes Go.RowKit

theorem os_step6 : Tryz.prog.cellsOf 28 = 6 := by kernel_rfl
theorem os_stepB : 0 < Tryz.prog.bytesOf 28 := of_decide_eq_true (by kernel_rfl)
theorem os_cellsI : Tryz.prog.cellsOf 3 = 1 := by kernel_rfl
theorem os_cellsS : Tryz.prog.cellsOf 9 = 1 := by kernel_rfl
theorem os_cellsB : Tryz.prog.cellsOf 26 = 1 := by kernel_rfl

theorem drop_one {α : Type} {l : List α} {k : Nat} {v : α} (h : (l.drop k).take 1 = [v]) : l[k]? = some v := by
  have := congrArg (·[0]?) h
  simpa [List.getElem?_take, List.getElem?_drop] using this

section
variable {H : Type} {enc : TypeId × Value → H} {W : World} {held : Bool}

/-- One step. -/
theorem open_step {fuel : Nat} {cs : List Value} {x : DataW H × List MemPlace} (h : DataW.trod enc Tryz.prog W 0 (fun _ => true) held fuel 28 cs = some x) :
    ∃ s : Stp, cs = stpCells s ∧ WindZ (memOf W) s.bv s.b ∧ ((∀ n ∈ x.1.weights Tryz.prog 28, n ≤ reachBytes) → s.name.size ≤ reachBytes ∧ s.to.size ≤ reachBytes ∧ s.b.length ≤ reachBytes) := by
  obtain ⟨xs, n, rfl, hx, hlen, hxl, hf⟩ := DataW.trod_struct Tryz.underlying28 h
  rw [os_step6] at hlen
  match xs, hxl with
  | [y0, y1, y2, y3, y4, y5], _ =>
    have g0 : DataW.trod enc Tryz.prog W 0 (fun _ => true) held n 3 ((cs.drop 0).take (Tryz.prog.cellsOf 3)) = some y0 := hf 0 _ rfl
    rw [os_cellsI] at g0
    have g1 : DataW.trod enc Tryz.prog W 0 (fun _ => true) held n 9 ((cs.drop 1).take (Tryz.prog.cellsOf 9)) = some y1 := hf 1 _ rfl
    rw [os_cellsS] at g1
    have g2 : DataW.trod enc Tryz.prog W 0 (fun _ => true) held n 9 ((cs.drop 2).take (Tryz.prog.cellsOf 9)) = some y2 := hf 2 _ rfl
    rw [os_cellsS] at g2
    have g3 : DataW.trod enc Tryz.prog W 0 (fun _ => true) held n 3 ((cs.drop 3).take (Tryz.prog.cellsOf 3)) = some y3 := hf 3 _ rfl
    rw [os_cellsI] at g3
    have g4 : DataW.trod enc Tryz.prog W 0 (fun _ => true) held n 3 ((cs.drop 4).take (Tryz.prog.cellsOf 3)) = some y4 := hf 4 _ rfl
    rw [os_cellsI] at g4
    have g5 : DataW.trod enc Tryz.prog W 0 (fun _ => true) held n 26 ((cs.drop 5).take (Tryz.prog.cellsOf 26)) = some y5 := hf 5 _ rfl
    rw [os_cellsB] at g5
    obtain ⟨k0, a0, _, _⟩ := DataW.trod_int Tryz.underlying3 g0
    obtain ⟨k1, a1, z1, _⟩ := DataW.trod_string Tryz.underlying9 g1
    obtain ⟨k2, a2, z2, _⟩ := DataW.trod_string Tryz.underlying9 g2
    obtain ⟨k3, a3, _, _⟩ := DataW.trod_int Tryz.underlying3 g3
    obtain ⟨k4, a4, _, _⟩ := DataW.trod_int Tryz.underlying3 g4
    obtain ⟨v5, bs, a5, w5, s5⟩ := open_bytes g5
    have b0 := drop_one a0
    have b1 := drop_one a1
    have b2 := drop_one a2
    have b3 := drop_one a3
    have b4 := drop_one a4
    have b5 := drop_one a5
    have hcs : cs = stpCells ⟨k0, k1, k2, k3, k4, v5, bs⟩ := by
      apply List.ext_getElem?
      intro j
      match j with
      | 0 => exact b0
      | 1 => exact b1
      | 2 => exact b2
      | 3 => exact b3
      | 4 => exact b4
      | 5 => exact b5
      | j + 6 => rw [List.getElem?_eq_none (by omega), List.getElem?_eq_none (by simp [stpCells])]
    refine ⟨⟨k0, k1, k2, k3, k4, v5, bs⟩, hcs, w5, fun hw => ?_⟩
    have hagg : x.1.weights Tryz.prog 28 = DataW.weightsEach Tryz.prog [3, 9, 9, 3, 3, 26] [y0.1, y1.1, y2.1, y3.1, y4.1, y5.1] := by
      rw [hx]
      simp only [DataW.weights, Tryz.underlying28]
      rfl
    rw [hagg] at hw
    refine ⟨?_, ?_, s5 fun n hn => hw n (DataW.weights_mem_each (j := 5) rfl rfl n hn)⟩
    · have := hw k1.data.toList.length (DataW.weights_mem_each (j := 1) (t := 9) (d := y1.1) rfl rfl _ (by rw [z1]; simp [DataW.weights]))
      rwa [Array.length_toList] at this
    · have := hw k2.data.toList.length (DataW.weights_mem_each (j := 2) (t := 9) (d := y2.1) rfl rfl _ (by rw [z2]; simp [DataW.weights]))
      rwa [Array.length_toList] at this

theorem flatMap_len6 (sl : List Stp) : (sl.flatMap stpCells).length = sl.length * 6 := by
  induction sl with
  | nil => rfl
  | cons s l ih => rw [List.flatMap_cons, List.length_append, ih, List.length_cons]; simp [stpCells]; omega

/-- A script. -/
theorem open_steps {fuel : Nat} {cs : List Value} {x : DataW H × List MemPlace} (h : DataW.trod enc Tryz.prog W 0 (fun _ => true) held fuel 22 cs = some x)
    (hw : ∀ n ∈ x.1.weights Tryz.prog 22, n ≤ reachBytes) : ∃ v sl, cs = [v] ∧ StepsK (memOf W) v sl := by
  have hR : reachBytes ≤ 140737488355328 := by decide
  rcases Go.Deep.open_slice Tryz.underlying22 h with ⟨hcs, _⟩ | ⟨a, len, cap, m, n, D, Pl, hcs, _, hl, _, hm, hx, hel⟩
  · exact ⟨_, [], hcs, .inl ⟨rfl, rfl⟩, by simp, by simp, by simp⟩
  · simp only [if_true] at hm
    rw [hx] at hw
    simp only [DataW.weights, Tryz.underlying22] at hw
    have hlenR : len ≤ reachBytes := by
      have h1 := hw _ (List.mem_cons_self ..)
      simp only [List.length_map, List.length_range] at h1
      have h2 := os_stepB
      have h3 : len + (m - len) ≤ (len + (m - len)) * Tryz.prog.bytesOf 28 := Nat.le_mul_of_pos_right _ h2
      omega
    have each : ∀ i, i < len → ∃ s : Stp, W.cells? 0 (a.add (i * 6)) 6 = some (stpCells s) ∧ WindZ (memOf W) s.bv s.b ∧ s.name.size ≤ reachBytes ∧ s.to.size ≤ reachBytes ∧ s.b.length ≤ reachBytes := fun i hi => by
      obtain ⟨cs', h1, h2⟩ := hel i (by omega)
      rw [os_step6] at h1
      obtain ⟨s, rfl, h3, h4⟩ := open_step h2
      exact ⟨s, h1, h3, h4 fun n hn => hw n (List.mem_cons_of_mem _ (List.mem_append_left _ (weights_all (d := D i) (List.mem_map.2 ⟨i, List.mem_range.2 hi, rfl⟩) n hn)))⟩
    have inh : Inhabited Stp := ⟨⟨0, ⟨#[]⟩, ⟨#[]⟩, 0, 0, .slice none 0 0, []⟩⟩
    obtain ⟨f, hf⟩ := Go.Deep.choose_lt each
    have hll : ((List.range len).map f).length = len := by simp
    refine ⟨_, (List.range len).map f, hcs, ?_, by rw [hll]; omega, fun s hs => ?_, fun s hs => ?_⟩
    · rw [hll]
      refine .inr ⟨a, cap, rfl, fun hp => ?_⟩
      refine cells_memOf (fun j u hj => ?_) (by rw [flatMap_len6, hll]; omega)
      have hjl : j < len * 6 := by
        have := (List.getElem?_eq_some_iff.1 hj).1
        rwa [flatMap_len6, hll] at this
      have hd : j / 6 < len := by omega
      have hg := stpCells_get ((List.range len).map f) (j / 6) (by rw [hll]; exact hd) (j % 6) (Nat.mod_lt _ (by decide))
      rw [show j / 6 * 6 + j % 6 = j from by omega, hj] at hg
      obtain ⟨_, _, hc⟩ := World.cells?_some (hf _ hd).1
      have := hc (j % 6) (by omega)
      rw [Go.Deep.add_add, show j / 6 * 6 + j % 6 = j from by omega] at this
      rw [this, hg]
      simp
    · obtain ⟨i, hi, rfl⟩ := List.mem_map.1 hs
      exact (hf i (List.mem_range.1 hi)).2.1
    · obtain ⟨i, hi, rfl⟩ := List.mem_map.1 hs
      have := (hf i (List.mem_range.1 hi)).2.2
      omega
end
end Go.Proofs.YtcdmdkgiabfbeaaGreatDoor

/-
  Files and fails as arguments, opened.
-/
namespace Go.Proofs.YtcdmdkgiabfbeaaGreatDoor
open Go.ChangeShapes Go.WideShapes Go.RowKit

theorem of_file2 : Tryz.prog.cellsOf 60 = 2 := by kernel_rfl
theorem of_fileB : 0 < Tryz.prog.bytesOf 60 := of_decide_eq_true (by kernel_rfl)
theorem of_fail3 : Tryz.prog.cellsOf 47 = 3 := by kernel_rfl
theorem of_failB : 0 < Tryz.prog.bytesOf 47 := of_decide_eq_true (by kernel_rfl)

theorem flatMap_get {α : Type} (c : α → List Value) (q : Nat) (hc : ∀ x, (c x).length = q) : ∀ (l : List α) (k : Nat) (h : k < l.length) (j : Nat), j < q → (l.flatMap c)[k * q + j]? = (c l[k])[j]?
  | [], k, h, _, _ => absurd h (Nat.not_lt_zero k)
  | s :: l, 0, _, j, hj => by
    simp only [List.flatMap_cons, Nat.zero_mul, Nat.zero_add]
    rw [List.getElem?_append_left (by rw [hc]; exact hj)]; rfl
  | s :: l, k + 1, h, j, hj => by
    have ih := flatMap_get c q hc l k (by simpa using h) j hj
    simp only [List.flatMap_cons]
    have he : (k + 1) * q = k * q + q := by rw [Nat.add_mul, Nat.one_mul]
    rw [List.getElem?_append_right (by rw [hc]; omega)]
    rw [show (k + 1) * q + j - (c s).length = k * q + j from by rw [hc]; omega]
    exact ih

section
variable {H : Type} {enc : TypeId × Value → H} {W : World} {held : Bool}

/-- A slice of structs, opened, when one struct is. -/
theorem open_rows {α : Type} [Inhabited α] {T E : TypeId} (c : α → List Value) (q : Nat) (hq : 0 < q) (hc : ∀ x, (c x).length = q) (hu : Tryz.prog.underlying T = some (.slice E)) (hcells : Tryz.prog.cellsOf E = q) (hbytes : 0 < Tryz.prog.bytesOf E) (X : α → Prop)
    (one : ∀ {fuel : Nat} {cs : List Value} {x : DataW H × List MemPlace}, DataW.trod enc Tryz.prog W 0 (fun _ => true) held fuel E cs = some x → ∃ s : α, cs = c s ∧ ((∀ n ∈ x.1.weights Tryz.prog E, n ≤ reachBytes) → X s))
    {fuel : Nat} {cs : List Value} {x : DataW H × List MemPlace} (h : DataW.trod enc Tryz.prog W 0 (fun _ => true) held fuel T cs = some x)
    (hw : ∀ n ∈ x.1.weights Tryz.prog T, n ≤ reachBytes) : ∃ (v : Value) (sl : List α), cs = [v] ∧ WindK (memOf W) v sl.length (sl.flatMap c) ∧ sl.length ≤ 140737488355328 ∧ ∀ s ∈ sl, X s := by
  have hR : reachBytes ≤ 140737488355328 := by decide
  rcases Go.Deep.open_slice hu h with ⟨hcs, _⟩ | ⟨a, len, cap, m, n, D, Pl, hcs, _, hl, _, hm, hx, hel⟩
  · exact ⟨_, [], hcs, .inl ⟨rfl, rfl⟩, by simp, by simp⟩
  · simp only [if_true] at hm
    rw [hx] at hw
    simp only [DataW.weights, hu] at hw
    have hlenR : len ≤ reachBytes := by
      have h1 := hw _ (List.mem_cons_self ..)
      simp only [List.length_map, List.length_range] at h1
      have h3 : len + (m - len) ≤ (len + (m - len)) * Tryz.prog.bytesOf E := Nat.le_mul_of_pos_right _ hbytes
      omega
    have each : ∀ i, i < len → ∃ s : α, W.cells? 0 (a.add (i * q)) q = some (c s) ∧ X s := fun i hi => by
      obtain ⟨cs', h1, h2⟩ := hel i (by omega)
      rw [hcells] at h1
      obtain ⟨s, rfl, h4⟩ := one h2
      exact ⟨s, h1, h4 fun n hn => hw n (List.mem_cons_of_mem _ (List.mem_append_left _ (weights_all (d := D i) (List.mem_map.2 ⟨i, List.mem_range.2 hi, rfl⟩) n hn)))⟩
    obtain ⟨f, hf⟩ := Go.Deep.choose_lt each
    have hll : ((List.range len).map f).length = len := by simp
    have hfl : (((List.range len).map f).flatMap c).length = len * q := by rw [flat_len c q hc, hll]
    refine ⟨_, (List.range len).map f, hcs, ?_, by rw [hll]; omega, fun s hs => ?_⟩
    · rw [hll]
      refine .inr ⟨a, cap, rfl, fun hp => ?_⟩
      refine cells_memOf (fun j u hj => ?_) (by rw [hfl]; exact Nat.mul_pos hp hq)
      have hjl : j < len * q := by
        have := (List.getElem?_eq_some_iff.1 hj).1
        rwa [hfl] at this
      have hd : j / q < len := Nat.div_lt_of_lt_mul (by rw [Nat.mul_comm]; exact hjl)
      have hsplit : j / q * q + j % q = j := by rw [Nat.mul_comm]; exact Nat.div_add_mod j q
      have hg := flatMap_get c q hc ((List.range len).map f) (j / q) (by rw [hll]; exact hd) (j % q) (Nat.mod_lt _ hq)
      rw [hsplit, hj] at hg
      obtain ⟨_, _, hcc⟩ := World.cells?_some (hf _ hd).1
      have := hcc (j % q) (Nat.mod_lt _ hq)
      rw [Go.Deep.add_add, hsplit] at this
      rw [this, hg]
      simp
    · obtain ⟨i, hi, rfl⟩ := List.mem_map.1 hs
      exact (hf i (List.mem_range.1 hi)).2

/-- One file. -/
theorem open_file {fuel : Nat} {cs : List Value} {x : DataW H × List MemPlace} (h : DataW.trod enc Tryz.prog W 0 (fun _ => true) held fuel 60 cs = some x) :
    ∃ s : File2, cs = fileCells s ∧ ((∀ n ∈ x.1.weights Tryz.prog 60, n ≤ reachBytes) → s.1.size ≤ 140737488355328 ∧ s.2.size ≤ 140737488355328) := by
  have hR : reachBytes ≤ 140737488355328 := by decide
  obtain ⟨xs, n, rfl, hx, hlen, hxl, hf⟩ := DataW.trod_struct Tryz.underlying60 h
  rw [of_file2] at hlen
  match xs, hxl with
  | [y0, y1], _ =>
    have g0 : DataW.trod enc Tryz.prog W 0 (fun _ => true) held n 9 ((cs.drop 0).take (Tryz.prog.cellsOf 9)) = some y0 := hf 0 _ rfl
    rw [os_cellsS] at g0
    have g1 : DataW.trod enc Tryz.prog W 0 (fun _ => true) held n 9 ((cs.drop 1).take (Tryz.prog.cellsOf 9)) = some y1 := hf 1 _ rfl
    rw [os_cellsS] at g1
    obtain ⟨k0, a0, z0, _⟩ := DataW.trod_string Tryz.underlying9 g0
    obtain ⟨k1, a1, z1, _⟩ := DataW.trod_string Tryz.underlying9 g1
    have b0 := drop_one a0
    have b1 := drop_one a1
    have hcs : cs = fileCells (k0, k1) := by
      apply List.ext_getElem?
      intro j
      match j with
      | 0 => exact b0
      | 1 => exact b1
      | j + 2 => rw [List.getElem?_eq_none (by omega), List.getElem?_eq_none (by simp [fileCells])]
    refine ⟨(k0, k1), hcs, fun hw => ?_⟩
    have hagg : x.1.weights Tryz.prog 60 = DataW.weightsEach Tryz.prog [9, 9] [y0.1, y1.1] := by
      rw [hx]
      simp only [DataW.weights, Tryz.underlying60]
      rfl
    rw [hagg] at hw
    have w0 := hw k0.data.toList.length (DataW.weights_mem_each (j := 0) (t := 9) (d := y0.1) rfl rfl _ (by rw [z0]; simp [DataW.weights]))
    have w1 := hw k1.data.toList.length (DataW.weights_mem_each (j := 1) (t := 9) (d := y1.1) rfl rfl _ (by rw [z1]; simp [DataW.weights]))
    rw [Array.length_toList] at w0 w1
    exact ⟨Nat.le_trans w0 hR, Nat.le_trans w1 hR⟩

/-- One failure. -/
theorem open_fail {fuel : Nat} {cs : List Value} {x : DataW H × List MemPlace} (h : DataW.trod enc Tryz.prog W 0 (fun _ => true) held fuel 47 cs = some x) :
    ∃ s : Fail3, cs = failCells s ∧ ((∀ n ∈ x.1.weights Tryz.prog 47, n ≤ reachBytes) → True) := by
  obtain ⟨xs, n, rfl, hx, hlen, hxl, hf⟩ := DataW.trod_struct Tryz.underlying47 h
  rw [of_fail3] at hlen
  match xs, hxl with
  | [y0, y1, y2], _ =>
    have g0 : DataW.trod enc Tryz.prog W 0 (fun _ => true) held n 3 ((cs.drop 0).take (Tryz.prog.cellsOf 3)) = some y0 := hf 0 _ rfl
    rw [os_cellsI] at g0
    have g1 : DataW.trod enc Tryz.prog W 0 (fun _ => true) held n 3 ((cs.drop 1).take (Tryz.prog.cellsOf 3)) = some y1 := hf 1 _ rfl
    rw [os_cellsI] at g1
    have g2 : DataW.trod enc Tryz.prog W 0 (fun _ => true) held n 3 ((cs.drop 2).take (Tryz.prog.cellsOf 3)) = some y2 := hf 2 _ rfl
    rw [os_cellsI] at g2
    obtain ⟨k0, a0, _, _⟩ := DataW.trod_int Tryz.underlying3 g0
    obtain ⟨k1, a1, _, _⟩ := DataW.trod_int Tryz.underlying3 g1
    obtain ⟨k2, a2, _, _⟩ := DataW.trod_int Tryz.underlying3 g2
    have b0 := drop_one a0
    have b1 := drop_one a1
    have b2 := drop_one a2
    refine ⟨(k0, k1, k2), ?_, fun _ => trivial⟩
    apply List.ext_getElem?
    intro j
    match j with
    | 0 => exact b0
    | 1 => exact b1
    | 2 => exact b2
    | j + 3 => rw [List.getElem?_eq_none (by omega), List.getElem?_eq_none (by simp [failCells])]

theorem open_files {fuel : Nat} {cs : List Value} {x : DataW H × List MemPlace} (h : DataW.trod enc Tryz.prog W 0 (fun _ => true) held fuel 40 cs = some x)
    (hw : ∀ n ∈ x.1.weights Tryz.prog 40, n ≤ reachBytes) : ∃ (v : Value) (fl : List File2), cs = [v] ∧ Files2 (memOf W) v fl ∧ fl.length ≤ 140737488355328 ∧ ∀ f ∈ fl, f.1.size ≤ 140737488355328 ∧ f.2.size ≤ 140737488355328 := by
  have inh : Inhabited File2 := ⟨(⟨#[]⟩, ⟨#[]⟩)⟩
  exact open_rows fileCells 2 (by decide) (fun _ => rfl) Tryz.underlying40 of_file2 of_fileB _ open_file h hw
theorem open_fails {fuel : Nat} {cs : List Value} {x : DataW H × List MemPlace} (h : DataW.trod enc Tryz.prog W 0 (fun _ => true) held fuel 48 cs = some x)
    (hw : ∀ n ∈ x.1.weights Tryz.prog 48, n ≤ reachBytes) : ∃ (v : Value) (xl : List Fail3), cs = [v] ∧ WindK (memOf W) v xl.length (xl.flatMap failCells) ∧ xl.length ≤ 140737488355328 := by
  have inh : Inhabited Fail3 := ⟨(0, 0, 0)⟩
  obtain ⟨v, xl, h1, h2, h3, _⟩ := open_rows failCells 3 (by decide) (fun _ => rfl) Tryz.underlying48 of_fail3 of_failB (fun _ => True) open_fail h hw
  exact ⟨v, xl, h1, h2, h3⟩
end
end Go.Proofs.YtcdmdkgiabfbeaaGreatDoor
