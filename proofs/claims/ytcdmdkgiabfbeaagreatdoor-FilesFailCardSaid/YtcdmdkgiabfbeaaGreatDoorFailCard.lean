/-
  FilesFail: what its loop keeps: two pairs of stores, alike but for the fails.
-/
import Derived.Test.YtcdmdkgiabfbeaaGreatDoorK28
import Derived.Test.YtcdmdkgiabfbeaaGreatDoorCards
import Derived.Test.YtcdmdkgiabfbeaaGreatDoorTie
import Derived.Below
import Derived.Carry
import Derived.SevenTiedAt
namespace Go.Proofs.YtcdmdkgiabfbeaaGreatDoor
open Go.RowKit

structure FI (m mr : Mem) (sa wa sb vb : Nat) (ga : G) (ra : RG) (gb : G) (rb : RG) (at' : Nat) (ior : Int) (n : Nat) : Prop where
  le : m.le mr
  A : Two mr sa wa ga ra
  B : Two mr sb vb gb rb
  sep : ∀ b, PP sa wa ga ra b → ¬ PP sb vb gb rb b
  newA : ∀ b, PP sa wa ga ra b → m b = none
  newB : ∀ b, PP sb vb gb rb b → m b = none
  like : Like ga.abs gb.abs
  fa : ga.fails = [((at' : Int), ior, 0)]
  fb : gb.fails = []
  na : ga.n = n
  nb : gb.n ≤ n

section
variable {m mr : Mem} {sa wa sb vb : Nat} {ga : G} {ra : RG} {gb : G} {rb : RG} {at' : Nat} {ior : Int} {n : Nat}

theorem FI.grow (h : FI m mr sa wa sb vb ga ra gb rb at' ior n) {mr' : Mem} (l : mr.le mr') : FI m mr' sa wa sb vb ga ra gb rb at' ior n :=
  { h with le := Mem.le_trans h.le l, A := h.A.le l, B := h.B.le l }

/-- The first pair's turn. -/
theorem FI.turnA (h : FI m mr sa wa sb vb ga ra gb rb at' ior n) {m2 : Mem} {g2 : G} {r2 : RG} (t2 : Two m2 sa wa g2 r2) (fr : Fr mr m2 (PP sa wa ga ra) (PP sa wa g2 r2)) :
    m.le m2 ∧ Two m2 sb vb gb rb ∧ (∀ b, PP sa wa g2 r2 b → ¬ PP sb vb gb rb b) ∧ ∀ b, PP sa wa g2 r2 b → m b = none := by
  obtain ⟨k1, k2⟩ := fr.other (Q := PP sb vb gb rb) (fun b hb => h.B.known hb) (fun b hb ha => h.sep b ha hb)
  obtain ⟨l2, new2⟩ := fr.base h.le h.newA
  exact ⟨l2, h.B.keep k1, fun b ha hb => k2 b hb ha, new2⟩

theorem now_a (h : FI m mr sa wa sb vb ga ra gb rb at' ior n) : ga.abs.now = if n + 1 = at' then ((at' : Int), ior, 0) else (0, 0, 0) := by
  show failAt ga.fails (ga.n + 1) = _
  rw [h.fa, h.na]
  unfold failAt
  rw [List.find?_cons]
  by_cases hx : n + 1 = at'
  · rw [if_pos hx, decide_eq_true (by show (at' : Int) = n + 1; omega)]; rfl
  · rw [if_neg hx, decide_eq_false (by show ¬ (at' : Int) = n + 1; omega)]; rfl
theorem now_b (h : FI m mr sa wa sb vb ga ra gb rb at' ior n) : gb.abs.now = (0, 0, 0) := by
  show failAt gb.fails (gb.n + 1) = _
  rw [h.fb]; rfl

/-- Behind the turn that fails. -/
theorem FI.failed (h : FI m mr sa wa sb vb ga ra gb rb at' ior n) (hat : n + 1 = at') (hi : ior ≠ 0) {s : Stp} (k1 : 1 ≤ s.kind) (k2 : s.kind ≤ 14) {m2 : Mem} {g2 : G} {r2 : RG} (t2 : Two m2 sa wa g2 r2) (fr : Fr mr m2 (PP sa wa ga ra) (PP sa wa g2 r2)) (ha : g2.abs = stepA ga.abs s) :
    FI m m2 sa wa sb vb g2 r2 gb rb at' ior (n + 1) ∧ filesOf g2.L = filesOf ga.L := by
  obtain ⟨l2, B2, sep2, new2⟩ := h.turnA t2 fr
  have hf : g2.abs = ga.abs.tick := by
    rw [ha, stepA_fail _ k1 k2]
    rw [now_a h, if_pos hat]; exact hi
  have hn : g2.n = ga.n + 1 := congrArg A.n hf
  have hfl : g2.fails = ga.fails := congrArg A.fails hf
  refine ⟨⟨l2, t2, B2, sep2, new2, h.newB, ?_, by rw [hfl]; exact h.fa, h.fb, by rw [hn, h.na], Nat.le_succ_of_le h.nb⟩, files_same h.A.st t2.st (by rw [hf]; rfl)⟩
  rw [hf]
  exact ⟨h.like.look, h.like.count, h.like.hnd⟩

/-- Behind both turns. -/
theorem FI.both (h : FI m mr sa wa sb vb ga ra gb rb at' ior n) (hat : ¬ n + 1 = at') {s : Stp} (k1 : 1 ≤ s.kind) (k2 : s.kind ≤ 14) {m2 : Mem} {g2 : G} {r2 : RG} (t2 : Two m2 sa wa g2 r2) (fr : Fr mr m2 (PP sa wa ga ra) (PP sa wa g2 r2)) (ha : g2.abs = stepA ga.abs s)
    {m2' m3 : Mem} (l : m2.le m2') {g3 : G} {r3 : RG} (t3 : Two m3 sb vb g3 r3) (fr3 : Fr m2' m3 (PP sb vb gb rb) (PP sb vb g3 r3)) (hb : g3.abs = stepA gb.abs s) :
    FI m m3 sa wa sb vb g2 r2 g3 r3 at' ior (n + 1) ∧ filesOf g3.L = filesOf g2.L := by
  obtain ⟨l2, B2, sep2, new2⟩ := h.turnA t2 fr
  obtain ⟨j1, j2⟩ := fr3.other (Q := PP sa wa g2 r2) (fun b hb => (t2.le l).known hb) sep2
  obtain ⟨l3, new3⟩ := fr3.base (Mem.le_trans l2 l) h.newB
  have A3 := (t2.le l).keep j1
  have hn : ga.abs.now = gb.abs.now := by rw [now_a h, now_b h, if_neg hat]
  have lk : Like g2.abs g3.abs := by rw [ha, hb]; exact stepA_like h.like hn s
  have oa := stepA_okp ga.abs s k1 k2
  have ob := stepA_okp gb.abs s k1 k2
  rw [← ha] at oa
  rw [← hb] at ob
  have na : g2.n = ga.n + 1 := oa.1
  have nb : g3.n = gb.n + 1 := ob.1
  have fa : g2.fails = ga.fails := oa.2
  have fb : g3.fails = gb.fails := ob.2
  exact ⟨⟨l3, A3, t3, j2, new2, new3, lk, by rw [fa]; exact h.fa, by rw [fb]; exact h.fb, by rw [na, h.na], by rw [nb]; have := h.nb; omega⟩, files_same A3.st t3.st lk.look.symm⟩

/-- Nothing of a pair lies in the block of a list of files that was made since. -/
theorem FI.was (h : FI m mr sa wa sb vb ga ra gb rb at' ior n) {mr' m2 : Mem} {fl : List File2} {v : Value} {P : Nat → Prop} (hv : FilesR mr fl v mr') (fr : Fr mr' m2 (PP sa wa ga ra) P) : FilesR mr fl v m2 :=
  ⟨hv.1.keep (fun b o hb hm => fr.keep b o hm fun hp => by
    obtain ⟨o', ho⟩ := h.A.known hp
    have h0 := hv.2 b hb
    rw [h0] at ho; cases ho), hv.2⟩
end

/-- A turn. -/
theorem does_turn {m mr : Mem} {sb rb : Nat} {g : G} {r : RG} {wr : World} (l : m.le mr) (t : Two mr sb rb g r) (new : ∀ b, PP sb rb g r b → m b = none) (hG : GlobOk m) (hn : g.n ≤ 9998) (hw : Has wr mr) (s : Stp) (hz : WindZ m s.bv s.b) (hb : s.b.length ≤ 1000000) :
    Calls Tryz.prog 20 #[.pointer (some ⟨sb, 0, none⟩), .pointer (some ⟨rb, 0, none⟩), .agg (stpCells s).toArray] wr (DoesR wr mr sb rb g r (stepA g.abs s)) := by
  refine does_any sb rb s g r wr mr hw t (hG.le l) (fun h0 => ?_) hn (hz.le l) (fun hp b hb hq => ?_) hb
  · obtain ⟨o, ho⟩ := hG.at0
    rw [new 0 h0] at ho; cases ho
  · obtain ⟨o, ho⟩ := hz.blk hp b hb
    rw [new b hq] at ho; cases ho

def FInv (w : World) (m : Mem) (sa wa sb vb q : Nat) (ior : Int) (n : Nat) (wr : World) : Prop := ∃ mr ga ra gb rb, Has wr mr ∧ Env w wr ∧ FI m mr sa wa sb vb ga ra gb rb q ior n

theorem newE_10 (fl : List File2) : newE fl 1 = newE fl 0 := by
  unfold newE newE1
  simp

/-- Ahead of the loop. -/
theorem FI.init {m mx m3 m4 my m5 m6 : Mem} {fl : List File2} {q : Nat} {ior : Int} {va vb' ua ub : Value} (l0 : m.le mx) (l1 : mx.le m3) (l2 : m3.le m4) (l3 : m4.le my) (l4 : my.le m5) (l5 : m5.le m6)
    (ha : NewR mx fl [((q : Int), ior, 0)] va m3) (hb : NewR m3 fl [] vb' m4) (ka : NewRR my fl [((q : Int), ior, 0)] ua m5) (kb : NewRR m5 fl [] ub m6) (h0 : newE fl 1 = 0) :
    ∃ sa wa sb vb ga ra gb rb, va = .tuple #[.pointer (some ⟨sa, 0, none⟩), .int .i64 0] ∧ vb' = .tuple #[.pointer (some ⟨sb, 0, none⟩), .int .i64 0] ∧ ua = .tuple #[.pointer (some ⟨wa, 0, none⟩), .int .i64 0] ∧ ub = .tuple #[.pointer (some ⟨vb, 0, none⟩), .int .i64 0] ∧
      FI m m6 sa wa sb vb ga ra gb rb q ior 0 := by
  obtain ⟨sa, ga, wa, ra, e1, e2, tA, a1, a2, a3, a4⟩ := two_new ha ka l1 (Mem.le_trans l2 l3) l4 h0
  obtain ⟨sb, gb, vb, rb, f1, f2, tB, b1, b2, b3, b4⟩ := two_new hb kb l2 (Mem.le_trans l3 l4) l5 (by rw [show ([] : List Fail3).length = 0 from rfl, ← newE_10]; exact h0)
  refine ⟨sa, wa, sb, vb, ga, ra, gb, rb, e1, f1, e2, f2, ⟨Mem.le_trans l0 (Mem.le_trans l1 (Mem.le_trans l2 (Mem.le_trans l3 (Mem.le_trans l4 l5)))), tA.le l5, tB, fun b hp hq => ?_, fun b hp => ?_, fun b hq => ?_, ?_, ?_, ?_, ?_, ?_⟩⟩
  · rcases hp with hp | hp <;> rcases hq with hq | hq
    · obtain ⟨o, ho⟩ := a4.known hp
      rw [b1 b hq] at ho; cases ho
    · obtain ⟨o, ho⟩ := a4.known hp
      have := (Mem.le_trans l2 (Mem.le_trans l3 l4)) _ _ ho
      rw [b2 b hq] at this; cases this
    · obtain ⟨o, ho⟩ := b4.known hq
      have := l3 _ _ ho
      rw [a2 b hp] at this; cases this
    · obtain ⟨o, ho⟩ := tA.rf.rep.known hp
      rw [b2 b hq] at ho; cases ho
  · rcases hp with hp | hp
    · exact Mem.none_le l0 (a1 b hp)
    · exact Mem.none_le (Mem.le_trans l0 (Mem.le_trans l1 (Mem.le_trans l2 l3))) (a2 b hp)
  · rcases hq with hq | hq
    · exact Mem.none_le (Mem.le_trans l0 l1) (b1 b hq)
    · exact Mem.none_le (Mem.le_trans l0 (Mem.le_trans l1 (Mem.le_trans l2 (Mem.le_trans l3 l4)))) (b2 b hq)
  · rw [a3, b3]; exact ⟨rfl, rfl, rfl⟩
  · have h : ga.abs.fails = [((q : Int), ior, 0)] := by rw [a3]; rfl
    exact h
  · have h : gb.abs.fails = [] := by rw [b3]; rfl
    exact h
  · have h : ga.abs.n = 0 := by rw [a3]; rfl
    exact h
  · have h : gb.abs.n = 0 := by rw [b3]; rfl
    exact Nat.le_of_eq h
end Go.Proofs.YtcdmdkgiabfbeaaGreatDoor

/-
  FilesFail, the walk.
-/
namespace Go.Proofs.YtcdmdkgiabfbeaaGreatDoor
open Go.RowKit

set_option maxHeartbeats 4000000 in
set_option maxRecDepth 100000 in
theorem fail_any (fv lv : Value) (fl : List File2) (sl : List Stp) (at' ior : Int) (w : World) (m : Mem) (hm : Has w m) (hG : GlobOk m) (hf : Files2 m fv fl) (hfl : fl.length ≤ 140737488355328) (hfs : ∀ f ∈ fl, f.1.size ≤ 140737488355328 ∧ f.2.size ≤ 140737488355328) (hs : StepsK m lv sl) :
    Calls Tryz.prog 4 #[fv, lv, .int .i64 at', .int .i64 ior] w (Post w m fun v _ => v = .bool true) := by
  obtain ⟨la, lc, rfl⟩ := hs.win.shape
  have hsl := hs.len
  have H := Lib.hid hm
  have HG := Lib.hid hG
  have HS := Lib.hid hs
  have HF := Lib.hid hf
  have HFS := Lib.hid hfs
  clear hm hG hs hf hfs
  have AW : Hid (∀ w1 m1, m.le m1 → Has w1 m1 → Env w w1 → Calls Tryz.prog 7 #[] w1 (Post w m fun v _ => v = .bool true)) := Lib.hid (fun w1 m1 l1 h1 n1 => by
    refine (awake_any w1 m1 h1 (HG.out.le l1)).mono ?_
    rintro e w2 ⟨v, m2, rfl, l2, h2, n2, rfl⟩
    exact Post.mk m2 (Mem.le_trans l1 l2) h2 (n1.trans n2) rfl)
  go_enter Tryz.func4, Tryz.ntmps4
  go_wp2_with fail
  refine (much_any fv fl none 0 0 _ sl w m H.out HF.out hfl (by omega) HFS.out HS.out).mono ?_
  rintro e w2 ⟨v, m2, rfl, l2, h2, n2, t, rfl, hv⟩
  have L2 := Lib.hid l2
  have H2 := Lib.hid h2
  have N2 := Lib.hid n2
  clear l2 h2 n2
  cases t with
  | true =>
    clear hv
    go_wp2_with fail
    refine (AW.out _ _ L2.out H2.out N2.out).mono ?_
    rintro e w3 ⟨v, m3, rfl, l3, h3, n3, rfl⟩
    have P3 := Lib.hid (Post.mk (R := fun v _ => v = .bool true) m3 l3 h3 n3 rfl)
    clear l3 h3 n3
    go_wp2_with fail
    go_ret
    exact P3.out
  | false =>
    obtain ⟨b1, b2, _, b4, b5⟩ := hv rfl
    have B4 : Hid (∀ f ∈ fl, f.2.size ≤ 1000000000) := Lib.hid (fun f hf => by
      have h := b4 f hf
      unfold fileN at h
      omega)
    have B5 := Lib.hid b5
    clear b4 b5 hv
    by_cases hi : ior = 0
    · subst hi
      go_wp2_with fail
      refine (AW.out _ _ L2.out H2.out N2.out).mono ?_
      rintro e w3 ⟨v, m3, rfl, l3, h3, n3, rfl⟩
      have P3 := Lib.hid (Post.mk (R := fun v _ => v = .bool true) m3 l3 h3 n3 rfl)
      clear l3 h3 n3
      go_wp2_with fail
      go_ret
      exact P3.out
    · have hib : (ior == 0) = false := by simpa using hi
      by_cases ha1 : at' < 1
      · go_wp2_with fail
        refine (AW.out _ _ L2.out H2.out N2.out).mono ?_
        rintro e w3 ⟨v, m3, rfl, l3, h3, n3, rfl⟩
        have P3 := Lib.hid (Post.mk (R := fun v _ => v = .bool true) m3 l3 h3 n3 rfl)
        clear l3 h3 n3
        go_wp2_with fail
        go_ret
        exact P3.out
      · by_cases ha2 : (sl.length : Int) < at'
        · go_wp2_with fail
          refine (AW.out _ _ L2.out H2.out N2.out).mono ?_
          rintro e w3 ⟨v, m3, rfl, l3, h3, n3, rfl⟩
          have P3 := Lib.hid (Post.mk (R := fun v _ => v = .bool true) m3 l3 h3 n3 rfl)
          clear l3 h3 n3
          go_wp2_with fail
          go_ret
          exact P3.out
        · obtain ⟨q, rfl⟩ : ∃ q : Nat, at' = q := ⟨at'.toNat, by omega⟩
          have HI := Lib.hid hi
          clear hi
          go_wp2_with fail
          have hfr := H2.out.fresh (Nat.le_refl w2.heap.size)
          have lx := Mem.le_set m2 (.cells #[.int .i64 q, .int .i64 ior, .int .i64 0] 47) hfr
          have hx := H2.out.alloc (.cells #[.int .i64 q, .int .i64 ior, .int .i64 0] 47)
          have NA := Lib.hid (new_any fv (.slice (some ⟨w2.heap.size, 0, none⟩) 1 1) fl [((q : Int), ior, 0)] _ _ hx (HF.out.le (Mem.le_trans L2.out lx)) (.inr ⟨_, _, rfl, fun _ => ⟨_, 0, rfl, Cells.whole (Mem.set_same _ _ _) rfl⟩⟩) (by omega) (by simp) B4.out)
          have LX := Lib.hid (Mem.le_trans L2.out lx)
          have NX := Lib.hid (N2.out.alloc (.cells #[.int .i64 q, .int .i64 ior, .int .i64 0] 47))
          obtain ⟨mx, hmx⟩ : ∃ mx, m2.set w2.heap.size (.cells #[.int .i64 q, .int .i64 ior, .int .i64 0] 47) = mx := ⟨_, rfl⟩
          rw [hmx] at NA LX
          clear hfr lx hx hmx H2 L2
          refine NA.out.mono ?_
          rintro e w3 ⟨v, m3, rfl, l3, h3, n3, hv⟩
          have L3 := Lib.hid l3
          have H3 := Lib.hid h3
          have N3 := Lib.hid (NX.out.trans n3)
          have HV := Lib.hid hv
          clear l3 h3 n3 hv NA
          have NB := Lib.hid (new_any fv (.slice none 0 0) fl [] w3 m3 H3.out (HF.out.le (Mem.le_trans LX.out L3.out)) (.inl ⟨rfl, rfl⟩) (by omega) (by simp) B4.out)
          by_cases hE : newE fl 1 = 0
          · obtain ⟨sa, g0, hveq, _⟩ := HV.out.1 hE
            subst hveq
            have HE := Lib.hid hE
            clear hE
            go_wp2_with fail
            refine NB.out.mono ?_
            rintro e w4 ⟨u, m4, rfl, l4, h4, n4, hu⟩
            obtain ⟨sb, g1, hueq, _⟩ := hu.1 (by rw [show ([] : List Fail3).length = 0 from rfl, ← newE_10]; exact HE.out)
            subst hueq
            have L4 := Lib.hid l4
            have H4 := Lib.hid h4
            have N4 := Lib.hid (N3.out.trans n4)
            have HU := Lib.hid hu
            clear l4 h4 n4 hu NB
            go_wp2_with fail
            have hfr := H4.out.fresh (Nat.le_refl w4.heap.size)
            have ly := Mem.le_set m4 (.cells #[.int .i64 q, .int .i64 ior, .int .i64 0] 47) hfr
            have hy := H4.out.alloc (.cells #[.int .i64 q, .int .i64 ior, .int .i64 0] 47)
            have RA := Lib.hid (newref_any fv (.slice (some ⟨w4.heap.size, 0, none⟩) 1 1) fl [((q : Int), ior, 0)] _ _ hy (HF.out.le (Mem.le_trans LX.out (Mem.le_trans L3.out (Mem.le_trans L4.out ly)))) (.inr ⟨_, _, rfl, fun _ => ⟨_, 0, rfl, Cells.whole (Mem.set_same _ _ _) rfl⟩⟩) (by omega) (by simp) B4.out)
            have LY := Lib.hid ly
            have NY := Lib.hid (N4.out.alloc (.cells #[.int .i64 q, .int .i64 ior, .int .i64 0] 47))
            obtain ⟨my, hmy⟩ : ∃ my, m4.set w4.heap.size (.cells #[.int .i64 q, .int .i64 ior, .int .i64 0] 47) = my := ⟨_, rfl⟩
            rw [hmy] at RA LY
            clear hfr ly hy hmy H4
            refine RA.out.mono ?_
            rintro e w5 ⟨y, m5, rfl, l5, h5, n5, hy⟩
            obtain ⟨wa, r0, hyeq, _⟩ := hy.1 HE.out
            subst hyeq
            have L5 := Lib.hid l5
            have H5 := Lib.hid h5
            have N5 := Lib.hid (NY.out.trans n5)
            have HYY := Lib.hid hy
            clear l5 h5 n5 hy RA
            have RB := Lib.hid (newref_any fv (.slice none 0 0) fl [] w5 m5 H5.out (HF.out.le (Mem.le_trans LX.out (Mem.le_trans L3.out (Mem.le_trans L4.out (Mem.le_trans LY.out L5.out))))) (.inl ⟨rfl, rfl⟩) (by omega) (by simp) B4.out)
            go_wp2_with fail
            refine RB.out.mono ?_
            rintro e w6 ⟨z, m6, rfl, l6, h6, n6, hz⟩
            obtain ⟨vb, r1, hzeq, _⟩ := hz.1 (by rw [show ([] : List Fail3).length = 0 from rfl, ← newE_10]; exact HE.out)
            subst hzeq
            have F0 : Hid (FInv w m sa wa sb vb q ior 0 w6) := Lib.hid (by
              obtain ⟨sa', wa', sb', vb', ga, ra, gb, rb, e1, e2, e3, e4, fi⟩ := FI.init LX.out L3.out L4.out LY.out L5.out l6 HV.out HU.out HYY.out hz HE.out
              obtain rfl : sa = sa' := by simpa using e1
              obtain rfl : sb = sb' := by simpa using e2
              obtain rfl : wa = wa' := by simpa using e3
              obtain rfl : vb = vb' := by simpa using e4
              exact ⟨m6, ga, ra, gb, rb, h6, N5.out.trans n6, fi⟩)
            clear l6 h6 n6 hz RB H5 N5 L5 HYY HV HU L4 N4 L3 H3 N3 NX NY LY
            go_wp2_with fail
            go_loopw [17, 18] (fun n' i' wr => ∃ n k : Nat, k ≤ sl.length ∧ n ≤ k ∧ n' = .int .i64 n ∧ i' = .int .i64 k ∧ Hid (FInv w m sa wa sb vb q ior n wr)) (fun _ i' _ => sl.length - (intOf i').toNat)
            case atStart => exact ⟨0, 0, Nat.zero_le _, Nat.le_refl _, rfl, rfl, F0⟩
            case round =>
              obtain ⟨n, k, hk, hnk, rfl, rfl, HP⟩ := hrel
              clear F0
              by_cases hlt : k < sl.length
              · obtain ⟨mr, ga, ra, gb', rb, hwr, nr, fi⟩ := HP.out
                obtain ⟨gb, go, cap, hla, hc⟩ := WindK.cells HS.out.win (by omega)
                simp only [Value.slice.injEq] at hla
                obtain ⟨rfl, _, rfl⟩ := hla
                have SC : Hid (∀ mx wx, m.le mx → Has wx mx → wx.cell? ⟨gb, go + k * 6, none⟩ = some (.int .i64 sl[k].kind) ∧ wx.cell? ⟨gb, go + k * 6 + 1, none⟩ = some (.string sl[k].name) ∧ wx.cell? ⟨gb, go + k * 6 + 2, none⟩ = some (.string sl[k].to) ∧ wx.cell? ⟨gb, go + k * 6 + 3, none⟩ = some (.int .i64 sl[k].id) ∧ wx.cell? ⟨gb, go + k * 6 + 4, none⟩ = some (.int .i64 sl[k].n) ∧ wx.cell? ⟨gb, go + k * 6 + 5, none⟩ = some sl[k].bv ∧ gb < wx.heap.size) := Lib.hid (fun mx wx lx hx => by
                  obtain ⟨e0, e1, e2, e3, e4, e5⟩ := StepsK.at (hc.le lx) hx hlt
                  obtain ⟨c, e, fz, h1, _⟩ := hc.le lx
                  exact ⟨e0, e1, e2, e3, e4, e5, hx.lt h1⟩)
                have zw := HS.out.wind _ (List.getElem_mem hlt)
                have zb := B5.out _ (List.getElem_mem hlt)
                obtain ⟨s, hsk⟩ : ∃ f, f = sl[k] := ⟨_, rfl⟩
                rw [← hsk] at SC zw zb
                obtain ⟨e0, e1, e2, e3, e4, e5, glt⟩ := SC.out mr wr fi.le hwr
                have ZW := Lib.hid zw
                have zb2 : s.b.length ≤ 1000000 := by unfold stpN at zb; omega
                obtain ⟨kd, nm, to', sid, sn, bv, bs⟩ := s
                simp only at e0 e1 e2 e3 e4 e5
                clear hsk zw zb hc
                by_cases hk1 : kd < 1
                · clear e1 e2 e3 e4 e5
                  go_wp2_with fail
                  go_roundw
                  case rel => exact ⟨n, k + 1, hlt, by omega, rfl, by go_num, HP⟩
                  case measure => simp [intOf]; omega
                · by_cases hk2 : 14 < kd
                  · clear e1 e2 e3 e4 e5
                    go_wp2_with fail
                    go_roundw
                    case rel => exact ⟨n, k + 1, hlt, by omega, rfl, by go_num, HP⟩
                    case measure => simp [intOf]; omega
                  · have FA := Lib.hid (files_any sa ga wr mr hwr fi.A.st)
                    have FI' := Lib.hid fi
                    have NR' := Lib.hid nr
                    have hna := fi.na
                    have hnb := fi.nb
                    clear fi nr hwr HP
                    go_wp2_with fail
                    refine FA.out.mono ?_
                    rintro e w7 ⟨wv, m7, rfl, l7, h7, n7, hwas⟩
                    have fi7 := FI'.out.grow l7
                    have DA := Lib.hid (does_turn fi7.le fi7.A fi7.newA HG.out (by omega) h7 ⟨kd, nm, to', sid, sn, bv, bs⟩ ZW.out zb2)
                    obtain ⟨e0, e1, e2, e3, e4, e5, glt⟩ := SC.out m7 w7 fi7.le h7
                    have FI7 := Lib.hid fi7
                    have H7 := Lib.hid h7
                    have N7 := Lib.hid (NR'.out.trans n7)
                    have HWAS := Lib.hid hwas
                    obtain ⟨wxa, wxc, rfl, _⟩ := hwas.1.lenV
                    clear l7 h7 n7 hwas fi7 FA NR'
                    go_wp2_with fail
                    refine DA.out.mono ?_
                    rintro e w8 ⟨m8, ga2, ra2, rfl, h8, n8, t8, ha8, fr8⟩
                    have HW8 := Lib.hid (FI'.out.was HWAS.out fr8)
                    have H8 := Lib.hid h8
                    have N8 := Lib.hid (N7.out.trans n8)
                    have T8 := Lib.hid t8
                    have HA8 := Lib.hid ha8
                    have FR8 := Lib.hid fr8
                    clear h8 n8 t8 ha8 fr8 DA e0 e1 e2 e3 e4 e5 glt N7
                    by_cases hat : n + 1 = q
                    · have hqb : ((n : Int) + 1 == (q : Int)) = true := by rw [beq_iff_eq]; omega
                      obtain ⟨fi9, hfe⟩ := FI7.out.failed hat HI.out (s := ⟨kd, nm, to', sid, sn, bv, bs⟩) (by omega) (by show kd ≤ 14; omega) T8.out FR8.out HA8.out
                      have FI9 := Lib.hid fi9
                      have FB := Lib.hid (files_any sa ga2 w8 m8 H8.out T8.out.st)
                      rw [hfe] at FB
                      have HLG : Hid (ga.L.length ≤ 100) := Lib.hid FI7.out.A.st.llen
                      clear hfe fi9
                      go_wp2_with fail
                      refine FB.out.mono ?_
                      rintro e w9 ⟨xv, m9, rfl, l9, h9, n9, hx9⟩
                      have hfl2 : (filesOf ga.L).length ≤ 1000000 := by unfold filesOf; rw [List.length_map, namesB_length]; have := HLG.out; omega
                      have AL := Lib.hid (all_same xv (.slice wxa (filesOf ga.L).length wxc) (filesOf ga.L) w9 m9 h9 hx9.1 (HW8.out.1.le l9) hfl2)
                      have FI9' := Lib.hid (FI9.out.grow l9)
                      have N9 := Lib.hid (N8.out.trans n9)
                      clear l9 h9 n9 hx9 hfl2 FB
                      go_wp2_with fail
                      refine AL.out.mono ?_
                      rintro e w10 ⟨z, m10, rfl, l10, h10, n10, rfl⟩
                      have PF : Hid (FInv w m sa wa sb vb q ior (n + 1) w10) := Lib.hid ⟨m10, ga2, ra2, gb', rb, h10, N9.out.trans n10, FI9'.out.grow l10⟩
                      clear l10 h10 n10 AL
                      go_wp2_with fail
                      go_roundw
                      case rel => exact ⟨n + 1, k + 1, hlt, by omega, by go_num, by go_num, PF⟩
                      case measure => simp [intOf]; omega
                    · have hqb : ((n : Int) + 1 == (q : Int)) = false := by rw [beq_eq_false_iff_ne]; omega
                      obtain ⟨l8, B8, sep8, new8⟩ := FI7.out.turnA T8.out FR8.out
                      obtain ⟨e0, e1, e2, e3, e4, e5, glt⟩ := SC.out m8 w8 l8 H8.out
                      have DB := Lib.hid (does_turn l8 B8 FI7.out.newB HG.out (by omega) H8.out ⟨kd, nm, to', sid, sn, bv, bs⟩ ZW.out zb2)
                      clear l8 B8 sep8 new8 HWAS HW8
                      go_wp2_with fail
                      refine DB.out.mono ?_
                      rintro e w9 ⟨m9, gb2, rb2, rfl, h9, n9, t9, hb9, fr9⟩
                      obtain ⟨fi9, hfe⟩ := FI7.out.both hat (s := ⟨kd, nm, to', sid, sn, bv, bs⟩) (by omega) (by show kd ≤ 14; omega) T8.out FR8.out HA8.out (Mem.le_refl _) t9 fr9 hb9
                      have FA2 := Lib.hid (files_any sa ga2 w9 m9 h9 fi9.A.st)
                      have FI9 := Lib.hid fi9
                      have HFE := Lib.hid hfe
                      have N9 := Lib.hid (N8.out.trans n9)
                      have HLG : Hid (ga2.L.length ≤ 100) := Lib.hid fi9.A.st.llen
                      clear h9 n9 t9 hb9 fr9 fi9 hfe DB e0 e1 e2 e3 e4 e5 glt
                      go_wp2_with fail
                      refine FA2.out.mono ?_
                      rintro e w10 ⟨xv, m10, rfl, l10, h10, n10, hx⟩
                      have FI10 := Lib.hid (FI9.out.grow l10)
                      have FB := Lib.hid (files_any sb gb2 w10 m10 h10 FI10.out.B.st)
                      rw [HFE.out] at FB
                      have N10 := Lib.hid (N9.out.trans n10)
                      have HX := Lib.hid hx
                      clear l10 h10 n10 hx FA2
                      go_wp2_with fail
                      refine FB.out.mono ?_
                      rintro e w11 ⟨yv, m11, rfl, l11, h11, n11, hy⟩
                      have hfl2 : (filesOf ga2.L).length ≤ 1000000 := by unfold filesOf; rw [List.length_map, namesB_length]; have := HLG.out; omega
                      have AL := Lib.hid (all_same xv yv (filesOf ga2.L) w11 m11 h11 (HX.out.1.le l11) hy.1 hfl2)
                      have FI11 := Lib.hid (FI10.out.grow l11)
                      have N11 := Lib.hid (N10.out.trans n11)
                      clear l11 h11 n11 hy hfl2 FB
                      go_wp2_with fail
                      refine AL.out.mono ?_
                      rintro e w12 ⟨z, m12, rfl, l12, h12, n12, rfl⟩
                      have PF : Hid (FInv w m sa wa sb vb q ior (n + 1) w12) := Lib.hid ⟨m12, ga2, ra2, gb2, rb2, h12, N11.out.trans n12, FI11.out.grow l12⟩
                      clear l12 h12 n12 AL
                      go_wp2_with fail
                      go_roundw
                      case rel => exact ⟨n + 1, k + 1, hlt, by omega, by go_num, by go_num, PF⟩
                      case measure => simp [intOf]; omega
              · obtain ⟨mr, ga, ra, gb', rb, hwr, nr, fi⟩ := HP.out
                clear HP
                go_wp2_with fail
                refine (AW.out _ _ fi.le hwr nr).mono ?_
                rintro e w9 ⟨v, m9, rfl, l9, h9, n9, rfl⟩
                have P9 := Lib.hid (Post.mk (R := fun v _ => v = .bool true) m9 l9 h9 n9 rfl)
                clear l9 h9 n9 hwr nr fi
                go_wp2_with fail
                go_ret
                exact P9.out
          · have hv' := HV.out.2 hE
            subst hv'
            have HE := Lib.hid hE
            clear hE HV
            go_wp2_with fail
            refine NB.out.mono ?_
            rintro e w4 ⟨u, m4, rfl, l4, h4, n4, hu⟩
            have hu' := hu.2 (by rw [show ([] : List Fail3).length = 0 from rfl, ← newE_10]; exact HE.out)
            subst hu'
            rw [show ([] : List Fail3).length = 0 from rfl, ← newE_10]
            have H4 := Lib.hid h4
            have N4 := Lib.hid (N3.out.trans n4)
            have L4 := Lib.hid (Mem.le_trans LX.out (Mem.le_trans L3.out l4))
            clear l4 h4 n4 hu NB
            generalize newE fl 1 = E at *
            go_wp2_with fail
            refine (AW.out _ _ L4.out H4.out N4.out).mono ?_
            rintro e w9 ⟨v, m9, rfl, l9, h9, n9, rfl⟩
            have P9 := Lib.hid (Post.mk (R := fun v _ => v = .bool true) m9 l9 h9 n9 rfl)
            clear l9 h9 n9
            go_wp2_with fail
            go_ret
            exact P9.out
end Go.Proofs.YtcdmdkgiabfbeaaGreatDoor

/-
  FilesFail: the row and its tied card.
-/
namespace Go.Proofs.YtcdmdkgiabfbeaaGreatDoor
open Go.ChangeShapes Go.WideShapes Go.RowKit

theorem fa_laidOut : laidOutB Tryz.prog = true := by kernel_rfl

set_option maxRecDepth 100000 in
theorem failLifted (os : Os) (started : os.Started) (H : Type) (enc : TypeId × Value → H) :
    ReturnsInHanded {} Tryz.checked os 4 .any (fun w args => (Rows.filesFailSpec.pre enc Tryz.prog Tryz.f4 [] false w args ∧ laidMetH Tryz.prog laidL w) ∧ sizedMet enc Tryz.prog Tryz.f4 (OpenSpec.ofChange Rows.filesFailSpec) false w args)
      (Rows.filesFailSpec.post enc Tryz.prog Tryz.f4 false true false false) := by
  refine returnsInHanded_of_change_and (C := Tryz.checked) (X := fun w _ => laidMetH Tryz.prog laidL w) (fun _ _ _ hh h => h.of_heap hh) la_own started (by kernel_rfl) Tryz.func4
    (ChangeSpec.witness_at (enc := enc) (C := Tryz.checked) (os := os) (X := fun w _ => laidMetH Tryz.prog laidL w) false (laidWorld os) #[.slice none 0 0, .slice none 0 0, .int .i64 0, .int .i64 0] 8 rfl (by kernel_rfl) (by kernel_rfl) (by kernel_rfl) (by kernel_rfl) (by kernel_rfl) (laidWorld_met os _)) ?_
  intro W base args ds gs before hval0 hW _ hz hL _
  have hval : ∀ (j : Nat) t v, Tryz.f4.params[j]? = some t → args[j]? = some v → Value.okWide Tryz.prog W .any base t v := hval0
  have hW' := hW
  obtain ⟨p, q, hA0, hV0, rfl, hfz, hnd⟩ := hW
  have hA : DataW.TrodAll enc Tryz.prog W 0 (fun _ => true) true Tryz.f4.params.toList args.toList ds p := hA0
  have hV : DataW.TrodVars enc Tryz.prog W (fun _ => true) [] gs q := hV0
  rw [Tryz.params4] at hA hval hz
  obtain ⟨v0, v1, v2, v3, d0, d1, d2, d3, p0, p1, p2, p3, rfl, rfl, rfl, h0, h1, h2, h3⟩ := trodAll_four hA
  have hg := glob_of_laid hL
  obtain ⟨rfl, rfl⟩ : gs = [] ∧ q = [] := by
    cases gs with
    | nil => exact ⟨rfl, hV⟩
    | cons g r => exact absurd hV (by intro h; cases h)
  have h0k := h0
  have h1k := h1
  have h2k := h2
  have h3k := h3
  obtain ⟨n2, rfl, rfl, rfl, _⟩ := open_int Tryz.underlying3 (hval 2 3 v2 rfl rfl) h2
  obtain ⟨n3, rfl, rfl, rfl, _⟩ := open_int Tryz.underlying3 (hval 3 3 v3 rfl rfl) h3
  obtain ⟨fuel0, hf0⟩ := h0
  obtain ⟨fuel1, hf1⟩ := h1
  have hlt0 : ∀ x ∈ p0, x.block < W.heap.size := fun x hx => hW'.lt x (by simp [hx])
  have hlt1 : ∀ x ∈ p1, x.block < W.heap.size := fun x hx => hW'.lt x (by simp [hx])
  have hb0 : ∀ (W' : World), Below W.heap.size W W' → DataW.Trod enc Tryz.prog W' 0 (fun b => decide (b < W.heap.size)) true 40 v0 d0 p0 :=
    fun W' hn => Below.trod fa_laidOut (by kernel_rfl) (of_decide_eq_true (by kernel_rfl)) h0k hn hlt0
  have hb1 : ∀ (W' : World), Below W.heap.size W W' → DataW.Trod enc Tryz.prog W' 0 (fun b => decide (b < W.heap.size)) true 22 v1 d1 p1 :=
    fun W' hn => Below.trod fa_laidOut (by kernel_rfl) (of_decide_eq_true (by kernel_rfl)) h1k hn hlt1
  have hb2 : ∀ (W' : World), Below W.heap.size W W' → DataW.Trod enc Tryz.prog W' 0 (fun b => decide (b < W.heap.size)) true 3 (.int .i64 n2) (.lit (.int .i64 n2)) [] :=
    fun W' hn => Below.trod fa_laidOut (by kernel_rfl) (of_decide_eq_true (by kernel_rfl)) h2k hn (fun x hx => by cases hx)
  have hb3 : ∀ (W' : World), Below W.heap.size W W' → DataW.Trod enc Tryz.prog W' 0 (fun b => decide (b < W.heap.size)) true 3 (.int .i64 n3) (.lit (.int .i64 n3)) [] :=
    fun W' hn => Below.trod fa_laidOut (by kernel_rfl) (of_decide_eq_true (by kernel_rfl)) h3k hn (fun x hx => by cases hx)
  have e1 : Rows.filesFailSpec.fn H ([d0, d1, .lit (.int .i64 n2), .lit (.int .i64 n3)] ++ []) = { results := [.lit (.bool true)], args := [d0, d1, .lit (.int .i64 n2), .lit (.int .i64 n3)] } := by simp [Rows.filesFailSpec]
  have hz' := List.all_eq_true.1 hz
  obtain ⟨a0, l0, c0, rfl⟩ := okWide_slice Tryz.underlying40 (hval 0 40 v0 rfl rfl)
  obtain ⟨a1, l1, c1, rfl⟩ := okWide_slice Tryz.underlying22 (hval 1 22 v1 rfl rfl)
  obtain ⟨fv, fl, hcf, hff, hfl, hfs⟩ := open_files hf0 (fun n hn => by
    have := hz' n (DataW.weights_mem_each (j := 0) (t := 40) (d := d0) rfl rfl n hn)
    simpa using this)
  obtain ⟨lv, sl, hcs, hst⟩ := open_steps hf1 (fun n hn => by
    have := hz' n (DataW.weights_mem_each (j := 1) (t := 22) (d := d1) rfl rfl n hn)
    simpa using this)
  have hcf' : Value.slice a0 l0 c0 = fv := by simpa [Value.cells] using hcf
  have hcs' : Value.slice a1 l1 c1 = lv := by simpa [Value.cells] using hcs
  subst hcf' hcs'
  clear hA0 hval0
  refine (fail_any _ _ fl sl n2 n3 W (memOf W) (has_memOf W) hg hff hfl hfs hst).mono fun e W' hp => ?_
  obtain ⟨v, m', rfl, lm, hm', hn', rfl⟩ := hp
  have hb := below_of lm hm' hn'
  refine ⟨_, rfl, _, _, _, [], p0 ++ (p1 ++ ([] ++ [])), [], hW', ?_, ?_, ?_, hb.frame _, fun h => by cases h⟩
  · rw [e1]; exact trodAll_mk1 (shut_bool Tryz.underlying4 true)
  · rw [e1]; exact trodAll_mk4 (hb0 _ hb) (hb1 _ hb) (hb2 _ hb) (hb3 _ hb)
  · rw [e1]; rfl

theorem failHolds : Rows.FilesFailSaid :=
  OpenClaim.holds_of_wide 4 Tryz.f4 rfl rfl rfl rfl rfl rfl rfl ⟨rfl, rfl, rfl, rfl, rfl⟩ rfl rfl rfl rfl rfl (by kernel_rfl) Tryz.func4 (by kernel_rfl)
    (of_decide_eq_true (by kernel_rfl)) (by unfold Func.isWrapper; rw [if_neg (of_decide_eq_false (by kernel_rfl))]; exact ⟨rfl, rfl⟩)
    (fun os started H enc _ => failLifted os started H enc)

theorem failRowTie : Rows.filesFailRow.laidByTextAt .later Tryz.pinned [.handle] true :=
  OpenClaim.laidByTextAt_later rfl rfl tie (by kernel_rfl)

theorem failCardHolds : Rows.FilesFailCardSaid :=
  Claim7.holds_tied_plain_at .later [] [.handle] true (true, "8acb15f038a0d229353776475dcd431a7e819712257e96ddd5b4fdd833e95b5c") true
    failHolds (fun _ h => by cases h) (by kernel_rfl) (fun _ h => by cases h) failRowTie rfl ⟨rfl, rfl⟩ (by kernel_rfl) rfl
    (fun f fn hf hfn => by
      obtain rfl : f = 4 := Option.some.inj ((show Tryz.prog.funcNamed "bobbin/bobbinlaw13.FilesFail" = some 4 by kernel_rfl).symm.trans hf) |>.symm
      obtain rfl : fn = Tryz.f4 := (Option.some.inj (Tryz.func4.symm.trans hfn)).symm
      exact ⟨by kernel_rfl, fun j t ht => by
        rw [Tryz.params4] at ht
        have h3 : t = 40 ∨ t = 22 ∨ t = 3 := by
          rcases j with _ | _ | _ | _ | j
          · simp at ht; exact .inl ht.symm
          · simp at ht; exact .inr (.inl ht.symm)
          · simp at ht; exact .inr (.inr ht.symm)
          · simp at ht; exact .inr (.inr ht.symm)
          · simp at ht
        rcases h3 with rfl | rfl | rfl
        · exact (show Tryz.prog.wantsStandIn 40 = false by kernel_rfl)
        · exact (show Tryz.prog.wantsStandIn 22 = false by kernel_rfl)
        · exact (show Tryz.prog.wantsStandIn 3 = false by kernel_rfl)⟩)
    (by kernel_rfl)
#print axioms failCardHolds
end Go.Proofs.YtcdmdkgiabfbeaaGreatDoor
